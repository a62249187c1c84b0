/- Small laws of a walk in company, each one step: the world named stays the one named. -/
import Derived.Test.YtejedbknpjffkaaRlH
import Derived.Conc.CompanyWords
namespace Go.Proofs.Ytejedbknpjffkaa.Rl
open Go Go.Conc

section
variable {P : Program} {main : Bool} {R : World → World → Prop} {D : World → World → Array Event → Prop} {Stop : Goroutine → World → Prop} {n : Nat} {w : World}

theorem gw_ctl (T : Terms R D) {g g' : Goroutine} (hs : g.status = .running) (h : ∀ w, stepG P main g w = .go g' w #[]) (hg : Goes P main R D Stop n g' w) : Goes P main R D Stop (n + 1) g w :=
  Goes.step hs fun w₁ h₁ => by rw [h w₁]; exact ⟨T.idle _, Goes.rely T.trans hg h₁⟩

variable {b : Frame} {a : Act} {k : List Item} {cs : List Frame} {ops : Array Oper} {i : Nat} {rest : List Nat} {o : Oper}

theorem gw_val (T : Terms R D) (v : Value) (ho : ops[i]? = some o) (hw : Region.wanted o (yielded ops a.tmps) = true) (hk : b.kind ≠ .early)
    (hr : ∀ w, (execOp a.eval o).run P w = .ok (.value v) w) (he : ∀ w, (execOp a.eval o).events P w #[] = #[])
    (hg : Goes P main R D Stop n (G (b.at (a.put o.dst v) (.inRegion ops rest :: k)) cs) w) : Goes P main R D Stop (n + 1) (G (b.at a (.inRegion ops (i :: rest) :: k)) cs) w :=
  gw_ctl T rfl (fun w => by rw [stepG_value ho hw hk (hr w)]; unfold listed; rw [he w, seen_none]) hg

/-- An operation that looks at memory, what is known (F) being carried over. -/
theorem gw_ld (T : Terms R D) {F : World → Prop} (hrl : ∀ a b, F a → R a b → F b) (hF : F w) (v : Value) (ho : ops[i]? = some o) (hw : Region.wanted o (yielded ops a.tmps) = true) (hk : b.kind ≠ .early)
    (hr : ∀ w, F w → (execOp a.eval o).run P w = .ok (.value v) w) (he : ∀ w, F w → D w w (listed P b.fn a o w))
    (hg : Goes P main R D Stop n (G (b.at (a.put o.dst v) (.inRegion ops rest :: k)) cs) w) : Goes P main R D Stop (n + 1) (G (b.at a (.inRegion ops (i :: rest) :: k)) cs) w :=
  Goes.step rfl fun w₁ h₁ => by
    have hF1 := hrl _ _ hF h₁
    rw [stepG_value ho hw hk (hr w₁ hF1)]
    exact ⟨he w₁ hF1, Goes.rely T.trans hg h₁⟩

/-- An operation that turns memory (f), and yields a value. -/
theorem gw_mv {F : World → Prop} (hrl : ∀ a b, F a → R a b → F b) (hF : F w) {f : World → World} {v : World → Value} (ho : ops[i]? = some o) (hw : Region.wanted o (yielded ops a.tmps) = true) (hk : b.kind ≠ .early)
    (hr : ∀ w, F w → (execOp a.eval o).run P w = .ok (.value (v w)) (f w)) (he : ∀ w, F w → D w (f w) (listed P b.fn a o w))
    (hg : ∀ w₁, R w w₁ → F w₁ → Goes P main R D Stop n (G (b.at (a.put o.dst (v w₁)) (.inRegion ops rest :: k)) cs) (f w₁)) : Goes P main R D Stop (n + 1) (G (b.at a (.inRegion ops (i :: rest) :: k)) cs) w :=
  Goes.step rfl fun w₁ h₁ => by
    have hF1 := hrl _ _ hF h₁
    rw [stepG_value ho hw hk (hr w₁ hF1)]
    exact ⟨he w₁ hF1, hg w₁ h₁ hF1⟩

/-- An operation that turns memory (f), and yields nothing. -/
theorem gw_st {F : World → Prop} (hrl : ∀ a b, F a → R a b → F b) (hF : F w) {f : World → World} (ho : ops[i]? = some o) (hw : Region.wanted o (yielded ops a.tmps) = true) (hk : b.kind ≠ .early)
    (hr : ∀ w, F w → (execOp a.eval o).run P w = .ok .skip (f w)) (he : ∀ w, F w → D w (f w) (listed P b.fn a o w))
    (hg : ∀ w₁, R w w₁ → F w₁ → Goes P main R D Stop n (G (b.at (a.put o.dst undef) (.inRegion ops rest :: k)) cs) (f w₁)) : Goes P main R D Stop (n + 1) (G (b.at a (.inRegion ops (i :: rest) :: k)) cs) w :=
  Goes.step rfl fun w₁ h₁ => by
    have hF1 := hrl _ _ hF h₁
    rw [stepG_none ho hw hk (hr w₁ hF1)]
    exact ⟨he w₁ hF1, hg w₁ h₁ hF1⟩

theorem gw_call (T : Terms R D) {f : FuncId} {fn : Func} {c : Code} {args : Array Operand} {ats : Array TypeId}
    (ho : ops[i]? = some o) (hw : Region.wanted o (yielded ops a.tmps) = true) (hk : b.kind ≠ .early) (hop : o.op = .call { callee := .value (.func f), args, argTypes := ats })
    (hf : P.funcs[f]? = some fn) (hname : (fn.name == "runtime.NumGoroutine") = false) (hb : fn.body = some c)
    (hg : Goes P main R D Stop n (G ((base f).at { tmps := args.map a.eval ++ Array.replicate (fn.ntmps - (args.map a.eval).size) undef, defers := [] } [.code c]) (b.at a (.inRegion ops (i :: rest) :: k) :: cs)) w) :
    Goes P main R D Stop (n + 1) (G (b.at a (.inRegion ops (i :: rest) :: k)) cs) w :=
  Goes.step rfl fun _ h₁ => goes_call ho hw hk hop hf hname hb ⟨T.idle _, Goes.rely T.trans hg h₁⟩

variable {b₀ : Frame} {a₀ : Act} {todo : List Item} {fn : Func}
theorem gw_leave1 (T : Terms R D) {t : Tmp} (hn : b.kind = .normal) (hd : a.defers = []) (hf : P.funcs[b.fn]? = some fn) (hr : fn.results = #[.tmp t])
    (hg : Goes P main R D Stop n (G (b₀.at (a₀.put ((ops[i]?).bind (·.dst)) (a.tmps.getD t undef)) (.inRegion ops rest :: k)) cs) w) :
    Goes P main R D Stop (n + 1) (G { b.at a todo with mode := .returning } (b₀.at a₀ (.inRegion ops (i :: rest) :: k) :: cs)) w :=
  Goes.step rfl fun _ h₁ => goes_leave1 hn hd hf hr ⟨T.idle _, Goes.rely T.trans hg h₁⟩
end

theorem listed_nil {P : Program} {fn : FuncId} {a : Act} {o : Oper} {w : World} (he : (execOp a.eval o).events P w #[] = #[]) : listed P fn a o w = #[] := by unfold listed; rw [he, seen_none]

theorem srv_fr (fr : Frame) (cs : List Frame) (v : Value) : Go.Conc.served (G fr cs) v = G (fr.finish v) cs := rfl

/-- To a stop at the world at hand. -/
theorem gw_stop {P : Program} {main : Bool} {R : World → World → Prop} {D : World → World → Array Event → Prop} {Stop : Goroutine → World → Prop} {g : Goroutine} {w : World} (h : ∀ w₁, R w w₁ → Stop g w₁) : Goes P main R D Stop 0 g w := h

end Go.Proofs.Ytejedbknpjffkaa.Rl
