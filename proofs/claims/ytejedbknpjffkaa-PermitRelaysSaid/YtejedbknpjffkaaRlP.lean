/- Permits in company: Len, there: as steps of whoever calls them. (Steps printed by rlwalk.py.) -/
import Derived.Test.YtejedbknpjffkaaRlK
import Derived.Test.YtejedbknpjffkaaS
namespace Go.Proofs.Ytejedbknpjffkaa.Rl
open Go Go.Conc Go.RowKit Go.ConcR.Gen

theorem nm58 : (Try.f58.name == "runtime.NumGoroutine") = false := by kernel_rfl
theorem nm19 : (Try.f19.name == "runtime.NumGoroutine") = false := by kernel_rfl
theorem nm26 : (Try.f26.name == "runtime.NumGoroutine") = false := by kernel_rfl
theorem nm25 : (Try.f25.name == "runtime.NumGoroutine") = false := by kernel_rfl

@[go_sem] theorem events_eq44 (x : Addr) (w : World) (es : Array Event) : (binOp .eql 44 (.pointer (some x)) (.pointer none)).events Try.prog w es = es := by kernel_rfl

section
variable {main : Bool} {R : World → World → Prop} {D : World → World → Array Event → Prop} {Stop : Goroutine → World → Prop} {n : Nat} {w : World} {F : World → Prop}
  {b : Frame} {a : Act} {k : List Item} {cs : List Frame} {ops : Array Oper} {i : Nat} {rest : List Nat} {o : Oper} {ats : Array TypeId} {x y : Operand} {pp bp m : Nat}

set_option maxRecDepth 100000 in
theorem g_len (T : Terms R D) (hrl : ∀ a b, F a → R a b → F b) (hF : F w) (hc0 : ∀ w, F w → w.cell? ⟨pp, 0, none⟩ = some (.slice (some ⟨bp, 0, none⟩) m m)) (hD : ∀ w, F w → ∀ es : Array Event, (∀ e ∈ es, e = ⟨.cell ⟨pp, 0, none⟩, false, false⟩) → D w w es)
    (ho : ops[i]? = some o) (hw : Region.wanted o (yielded ops a.tmps) = true) (hk : b.kind ≠ .early) (hop : o.op = .call { callee := .value (.func 19), args := #[x], argTypes := ats }) (hx : a.eval x = .pointer (some ⟨pp, 0, none⟩))
    (hg : Goes Try.prog main R D Stop n (G (b.at (a.put o.dst (.int .i64 m)) (.inRegion ops rest :: k)) cs) w) :
    Goes Try.prog main R D Stop (n + 24) (G (b.at a (.inRegion ops (i :: rest) :: k)) cs) w := by
  refine gw_call T ho hw hk hop Try.func19 nm19 rfl ?_
  simp only [List.map_toArray, List.map_cons, List.map_nil, hx]
  walk_nrmf Try.f19
  refine gw_ctl T rfl (fun _ => stepG_seq) ?_
  refine gw_ctl T rfl (fun _ => stepG_region) ?_
  simp only [List.size_toArray, List.length_cons, List.length_nil, Nat.reduceAdd, Nat.zero_add, List.range, List.range.loop]
  refine gw_val T (.int .i64 0) rfl rfl (by k_ne) (fun _ => by go_simp) (fun _ => by simp [go_sem]) ?_
  walk_nrm
  refine gw_ctl T rfl (fun _ => stepG_region_end) ?_
  refine gw_ctl T rfl (fun _ => stepG_seq) ?_
  refine gw_ctl T rfl (fun _ => stepG_seq) ?_
  refine gw_ctl T rfl (fun _ => stepG_region) ?_
  simp only [List.size_toArray, List.length_cons, List.length_nil, Nat.reduceAdd, Nat.zero_add, List.range, List.range.loop]
  refine gw_val T (.pointer (some ⟨pp, 0, none⟩)) rfl rfl (by k_ne) (fun _ => by go_simp) (fun _ => by simp [go_sem]) ?_
  walk_nrm
  refine gw_val T (.bool false) rfl rfl (by k_ne) (fun _ => by go_simp) (fun _ => by simp [go_sem]) ?_
  walk_nrm
  refine gw_ctl T rfl (fun _ => stepG_region_end) ?_
  refine gw_ctl T rfl (fun _ => stepG_cond (t := false) rfl) ?_
  simp only [if_false, Bool.false_eq_true, ↓reduceIte]
  refine gw_ctl T rfl (fun _ => stepG_skip) ?_
  refine gw_ctl T rfl (fun _ => stepG_seq) ?_
  refine gw_ctl T rfl (fun _ => stepG_region) ?_
  simp only [List.size_toArray, List.length_cons, List.length_nil, Nat.reduceAdd, Nat.zero_add, List.range, List.range.loop]
  refine gw_val T (.pointer (some ⟨pp, 0, none⟩)) rfl rfl (by k_ne) (fun _ => by go_simp) (fun _ => by simp [go_sem]) ?_
  walk_nrm
  refine gw_val T (.pointer (some ⟨pp, 0, none⟩)) rfl rfl (by k_ne) (fun _ => by go_simp) (fun _ => by simp [go_sem]) ?_
  walk_nrm
  refine gw_val T (.pointer (some ⟨pp, 0, none⟩)) rfl rfl (by k_ne) (fun _ => by go_simp) (fun _ => by simp [go_sem]) ?_
  walk_nrm
  refine gw_ld T hrl hF (.slice (some ⟨bp, 0, none⟩) m m) rfl rfl (by k_ne) (fun w hF => by have hc := hc0 _ hF; go_simp) (fun w hF => hD _ hF _ (fun e he => by have hc := hc0 _ hF; have hm := mem_listed he; simp [go_sem, hc] at hm; exact hm)) ?_
  walk_nrm
  refine gw_val T (.int .i64 m) rfl rfl (by k_ne) (fun _ => by go_simp) (fun _ => by simp [go_sem]) ?_
  walk_nrm
  refine gw_val T (.int .i64 m) rfl rfl (by k_ne) (fun _ => by go_simp) (fun _ => by simp [go_sem]) ?_
  walk_nrm
  refine gw_ctl T rfl (fun _ => stepG_region_end) ?_
  refine gw_ctl T rfl (fun _ => stepG_ret') ?_
  refine gw_leave1 T rfl rfl Try.func19 rfl ?_
  rw [ho]
  exact hg

set_option maxRecDepth 100000 in
theorem g_there (T : Terms R D) (hrl : ∀ a b, F a → R a b → F b) (hF : F w) (hc0 : ∀ w, F w → w.cell? ⟨pp, 0, none⟩ = some (.slice (some ⟨bp, 0, none⟩) m m)) (hD : ∀ w, F w → ∀ es : Array Event, (∀ e ∈ es, e = ⟨.cell ⟨pp, 0, none⟩, false, false⟩) → D w w es)
    {t : Nat} (ht : t < m) (ho : ops[i]? = some o) (hw : Region.wanted o (yielded ops a.tmps) = true) (hk : b.kind ≠ .early) (hop : o.op = .call { callee := .value (.func 58), args := #[x, y], argTypes := ats }) (hx : a.eval x = .pointer (some ⟨pp, 0, none⟩)) (hy : a.eval y = .int .i64 t)
    (hg : Goes Try.prog main R D Stop n (G (b.at (a.put o.dst (.bool true)) (.inRegion ops rest :: k)) cs) w) :
    Goes Try.prog main R D Stop (n + 42) (G (b.at a (.inRegion ops (i :: rest) :: k)) cs) w := by
  have q0 : decide (0 ≤ (t : Int)) = true := decide_eq_true (by omega)
  have q1 : decide ((t : Int) < (m : Int)) = true := decide_eq_true (by omega)
  refine gw_call T ho hw hk hop Try.func58 nm58 rfl ?_
  simp only [List.map_toArray, List.map_cons, List.map_nil, hx, hy]
  walk_nrmf Try.f58
  refine gw_ctl T rfl (fun _ => stepG_seq) ?_
  refine gw_ctl T rfl (fun _ => stepG_region) ?_
  simp only [List.size_toArray, List.length_cons, List.length_nil, Nat.reduceAdd, Nat.zero_add, List.range, List.range.loop]
  refine gw_val T (.bool false) rfl rfl (by k_ne) (fun _ => by go_simp) (fun _ => by simp [go_sem]) ?_
  walk_nrm
  refine gw_ctl T rfl (fun _ => stepG_region_end) ?_
  refine gw_ctl T rfl (fun _ => stepG_seq) ?_
  refine gw_ctl T rfl (fun _ => stepG_region) ?_
  simp only [List.size_toArray, List.length_cons, List.length_nil, Nat.reduceAdd, Nat.zero_add, List.range, List.range.loop]
  refine gw_val T (.int .i64 t) rfl rfl (by k_ne) (fun _ => by go_simp) (fun _ => by simp [go_sem, *]) ?_
  walk_nrm
  refine gw_val T (.bool true) rfl rfl (by k_ne) (fun _ => by go_simp) (fun _ => by simp [go_sem, *]) ?_
  walk_nrm
  refine gw_val T (.bool true) rfl rfl (by k_ne) (fun _ => by go_simp) (fun _ => by simp [go_sem, *]) ?_
  walk_nrm
  refine gw_val T (.int .i64 t) rfl rfl (by k_ne) (fun _ => by go_simp) (fun _ => by simp [go_sem, *]) ?_
  walk_nrm
  refine gw_val T (.pointer (some ⟨pp, 0, none⟩)) rfl rfl (by k_ne) (fun _ => by go_simp) (fun _ => by simp [go_sem]) ?_
  walk_nrm
  refine g_len T hrl hF hc0 hD rfl rfl (by k_ne) rfl rfl ?_
  walk_nrm
  refine gw_val T (.bool true) rfl rfl (by k_ne) (fun _ => by go_simp) (fun _ => by simp [go_sem, *]) ?_
  walk_nrm
  refine gw_val T (.bool true) rfl rfl (by k_ne) (fun _ => by go_simp) (fun _ => by simp [go_sem, *]) ?_
  walk_nrm
  refine gw_val T (.bool true) rfl rfl (by k_ne) (fun _ => by go_simp) (fun _ => by simp [go_sem, *]) ?_
  walk_nrm
  refine gw_ctl T rfl (fun _ => stepG_region_end) ?_
  refine gw_ctl T rfl (fun _ => stepG_ret') ?_
  refine gw_leave1 T rfl rfl Try.func58 rfl ?_
  rw [ho]
  exact hg

/-- What stands behind a communication that is made inside a callee: served, it comes back to its caller with this value. -/
def Comes (main : Bool) (b : Frame) (a : Act) (d : Option Tmp) (v : Value) (ops : Array Oper) (rest : List Nat) (k : List Item) (cs : List Frame) (q : Nat) (g : Goroutine) : Prop :=
  ∀ {R' : World → World → Prop} {D' : World → World → Array Event → Prop} {Stop' : Goroutine → World → Prop} {n' : Nat} {w' : World}, Terms R' D' →
    Goes Try.prog main R' D' Stop' n' (G (b.at (a.put d v) (.inRegion ops rest :: k)) cs) w' → Goes Try.prog main R' D' Stop' (n' + q) g w'

set_option maxRecDepth 100000 in
set_option maxHeartbeats 1000000 in
/-- Block: to the receive. -/
theorem g_block (T : Terms R D) (hrl : ∀ a b, F a → R a b → F b) (hF : F w) (hc0 : ∀ w, F w → w.cell? ⟨pp, 0, none⟩ = some (.slice (some ⟨bp, 0, none⟩) m m)) {t c : Nat} (hc1 : ∀ w, F w → w.cell? ⟨bp, t, none⟩ = some (.chan (some c)))
    (hD : ∀ w, F w → ∀ es : Array Event, (∀ e ∈ es, e = ⟨.cell ⟨pp, 0, none⟩, false, false⟩ ∨ e = ⟨.cell ⟨bp, t, none⟩, false, false⟩) → D w w es)
    (ht : t < m) (ho : ops[i]? = some o) (hw : Region.wanted o (yielded ops a.tmps) = true) (hk : b.kind ≠ .early) (hop : o.op = .call { callee := .value (.func 26), args := #[x, y], argTypes := ats }) (hx : a.eval x = .pointer (some ⟨pp, 0, none⟩)) (hy : a.eval y = .int .i64 t)
    (hS : ∀ g w₁, (∀ w, stepG Try.prog main g w = .comm g #[rcase c U] true (.recv false) w #[]) → g.status = .running → Comes main b a o.dst (.bool true) ops rest k cs 7 (Go.Conc.served g U) → R w w₁ → Stop g w₁) :
    Goes Try.prog main R D Stop (n + 66) (G (b.at a (.inRegion ops (i :: rest) :: k)) cs) w := by
  have q1 : decide ((t : Int) < (m : Int)) = true := decide_eq_true (by omega)
  have q2 : t < m := ht
  refine gw_call T ho hw hk hop Try.func26 nm26 rfl ?_
  simp only [List.map_toArray, List.map_cons, List.map_nil, hx, hy]
  walk_nrmf Try.f26
  refine gw_ctl T rfl (fun _ => stepG_seq) ?_
  refine gw_ctl T rfl (fun _ => stepG_region) ?_
  simp only [List.size_toArray, List.length_cons, List.length_nil, Nat.reduceAdd, Nat.zero_add, List.range, List.range.loop]
  refine gw_val T (.bool false) rfl rfl (by k_ne) (fun _ => by go_simp) (fun _ => by simp [go_sem]) ?_
  walk_nrm
  refine gw_ctl T rfl (fun _ => stepG_region_end) ?_
  refine gw_ctl T rfl (fun _ => stepG_seq) ?_
  refine gw_ctl T rfl (fun _ => stepG_seq) ?_
  refine gw_ctl T rfl (fun _ => stepG_region) ?_
  simp only [List.size_toArray, List.length_cons, List.length_nil, Nat.reduceAdd, Nat.zero_add, List.range, List.range.loop]
  refine gw_val T (.pointer (some ⟨pp, 0, none⟩)) rfl rfl (by k_ne) (fun _ => by go_simp) (fun _ => by simp [go_sem]) ?_
  walk_nrm
  refine gw_val T (.int .i64 t) rfl rfl (by k_ne) (fun _ => by go_simp) (fun _ => by simp [go_sem]) ?_
  walk_nrm
  refine g_there T hrl hF hc0 (fun w hF es h => hD w hF es fun e he => .inl (h e he)) ht rfl rfl (by k_ne) rfl rfl rfl ?_
  walk_nrm
  refine gw_val T (.bool false) rfl rfl (by k_ne) (fun _ => by go_simp) (fun _ => by simp [go_sem]) ?_
  walk_nrm
  refine gw_ctl T rfl (fun _ => stepG_region_end) ?_
  refine gw_ctl T rfl (fun _ => stepG_cond (t := false) rfl) ?_
  simp only [if_false, Bool.false_eq_true, ↓reduceIte]
  refine gw_ctl T rfl (fun _ => stepG_skip) ?_
  refine gw_ctl T rfl (fun _ => stepG_seq) ?_
  refine gw_ctl T rfl (fun _ => stepG_region) ?_
  simp only [List.size_toArray, List.length_cons, List.length_nil, Nat.reduceAdd, Nat.zero_add, List.range, List.range.loop]
  refine gw_val T (.pointer (some ⟨pp, 0, none⟩)) rfl rfl (by k_ne) (fun _ => by go_simp) (fun _ => by simp [go_sem]) ?_
  walk_nrm
  refine gw_val T (.pointer (some ⟨pp, 0, none⟩)) rfl rfl (by k_ne) (fun _ => by go_simp) (fun _ => by simp [go_sem]) ?_
  walk_nrm
  refine gw_val T (.pointer (some ⟨pp, 0, none⟩)) rfl rfl (by k_ne) (fun _ => by go_simp) (fun _ => by simp [go_sem]) ?_
  walk_nrm
  refine gw_ld T hrl hF (.slice (some ⟨bp, 0, none⟩) m m) rfl rfl (by k_ne) (fun w hF => by have hc := hc0 _ hF; go_simp) (fun w hF => (fun h => hD _ hF _ fun e he => .inl (h e he)) (fun e he => by have hc := hc0 _ hF; have hm := mem_listed he; simp [go_sem, hc] at hm; exact hm)) ?_
  walk_nrm
  refine gw_val T (.int .i64 t) rfl rfl (by k_ne) (fun _ => by go_simp) (fun _ => by simp [go_sem]) ?_
  walk_nrm
  refine gw_val T (.pointer (some ⟨bp, t, none⟩)) rfl rfl (by k_ne) (fun _ => by go_simp) (fun _ => by simp [go_sem, *]) ?_
  walk_nrm
  refine gw_ld T hrl hF (.chan (some c)) rfl rfl (by k_ne) (fun w hF => by have hc := hc1 _ hF; go_simp) (fun w hF => (fun h => hD _ hF _ fun e he => .inr (h e he)) (fun e he => by have hc := hc1 _ hF; have hm := mem_listed he; simp [go_sem, hc] at hm; exact hm)) ?_
  walk_nrm
  refine Goes.stop (fun w₁ h₁ => hS _ w₁ (fun w => by rw [stepG_comm rfl rfl (by k_ne) (cases := #[rcase c U]) (blocking := true) (shape := .recv false) (w' := w) (by simp [go_sem, execOp, rcase, Act.eval, U]), listed_nil (by simp [go_sem, execOp, Act.eval])]) rfl ?_ h₁)
  intro R' D' Stop' n' w' T hg
  rw [srv_fr, Frame.finish_at]
  walk_nrm
  refine gw_ctl T rfl (fun _ => stepG_region_end) ?_
  refine gw_ctl T rfl (fun _ => stepG_seq) ?_
  refine gw_ctl T rfl (fun _ => stepG_region) ?_
  simp only [List.size_toArray, List.length_cons, List.length_nil, Nat.reduceAdd, Nat.zero_add, List.range, List.range.loop]
  refine gw_val T (.bool true) rfl rfl (by k_ne) (fun _ => by go_simp) (fun _ => by simp [go_sem]) ?_
  walk_nrm
  refine gw_ctl T rfl (fun _ => stepG_region_end) ?_
  refine gw_ctl T rfl (fun _ => stepG_ret') ?_
  refine gw_leave1 T rfl rfl Try.func26 rfl ?_
  rw [ho]
  exact hg

set_option maxRecDepth 100000 in
set_option maxHeartbeats 1000000 in
/-- Give: to the try to send. -/
theorem g_give (T : Terms R D) (hrl : ∀ a b, F a → R a b → F b) (hF : F w) (hc0 : ∀ w, F w → w.cell? ⟨pp, 0, none⟩ = some (.slice (some ⟨bp, 0, none⟩) m m)) {t c : Nat} (hc1 : ∀ w, F w → w.cell? ⟨bp, t, none⟩ = some (.chan (some c)))
    (hD : ∀ w, F w → ∀ es : Array Event, (∀ e ∈ es, e = ⟨.cell ⟨pp, 0, none⟩, false, false⟩ ∨ e = ⟨.cell ⟨bp, t, none⟩, false, false⟩) → D w w es)
    (ht : t < m) (ho : ops[i]? = some o) (hw : Region.wanted o (yielded ops a.tmps) = true) (hk : b.kind ≠ .early) (hop : o.op = .call { callee := .value (.func 25), args := #[x, y], argTypes := ats }) (hx : a.eval x = .pointer (some ⟨pp, 0, none⟩)) (hy : a.eval y = .int .i64 t)
    (hS : ∀ g w₁, (∀ w, stepG Try.prog main g w = .comm g #[scase c U U] false .select w #[]) → g.status = .running → Comes main b a o.dst (.bool true) ops rest k cs 13 (Go.Conc.served g UT) → R w w₁ → Stop g w₁) :
    Goes Try.prog main R D Stop (n + 76) (G (b.at a (.inRegion ops (i :: rest) :: k)) cs) w := by
  have q1 : decide ((t : Int) < (m : Int)) = true := decide_eq_true (by omega)
  have q2 : t < m := ht
  refine gw_call T ho hw hk hop Try.func25 nm25 rfl ?_
  simp only [List.map_toArray, List.map_cons, List.map_nil, hx, hy]
  walk_nrmf Try.f25
  refine gw_ctl T rfl (fun _ => stepG_seq) ?_
  refine gw_ctl T rfl (fun _ => stepG_region) ?_
  simp only [List.size_toArray, List.length_cons, List.length_nil, Nat.reduceAdd, Nat.zero_add, List.range, List.range.loop]
  refine gw_val T (.bool false) rfl rfl (by k_ne) (fun _ => by go_simp) (fun _ => by simp [go_sem]) ?_
  walk_nrm
  refine gw_ctl T rfl (fun _ => stepG_region_end) ?_
  refine gw_ctl T rfl (fun _ => stepG_seq) ?_
  refine gw_ctl T rfl (fun _ => stepG_seq) ?_
  refine gw_ctl T rfl (fun _ => stepG_region) ?_
  simp only [List.size_toArray, List.length_cons, List.length_nil, Nat.reduceAdd, Nat.zero_add, List.range, List.range.loop]
  refine gw_val T (.pointer (some ⟨pp, 0, none⟩)) rfl rfl (by k_ne) (fun _ => by go_simp) (fun _ => by simp [go_sem]) ?_
  walk_nrm
  refine gw_val T (.int .i64 t) rfl rfl (by k_ne) (fun _ => by go_simp) (fun _ => by simp [go_sem]) ?_
  walk_nrm
  refine g_there T hrl hF hc0 (fun w hF es h => hD w hF es fun e he => .inl (h e he)) ht rfl rfl (by k_ne) rfl rfl rfl ?_
  walk_nrm
  refine gw_val T (.bool false) rfl rfl (by k_ne) (fun _ => by go_simp) (fun _ => by simp [go_sem]) ?_
  walk_nrm
  refine gw_ctl T rfl (fun _ => stepG_region_end) ?_
  refine gw_ctl T rfl (fun _ => stepG_cond (t := false) rfl) ?_
  simp only [if_false, Bool.false_eq_true, ↓reduceIte]
  refine gw_ctl T rfl (fun _ => stepG_skip) ?_
  refine gw_ctl T rfl (fun _ => stepG_seq) ?_
  refine gw_ctl T rfl (fun _ => stepG_seq) ?_
  refine gw_ctl T rfl (fun _ => stepG_seq) ?_
  refine gw_ctl T rfl (fun _ => stepG_region) ?_
  simp only [List.size_toArray, List.length_cons, List.length_nil, Nat.reduceAdd, Nat.zero_add, List.range, List.range.loop]
  refine gw_val T (.pointer (some ⟨pp, 0, none⟩)) rfl rfl (by k_ne) (fun _ => by go_simp) (fun _ => by simp [go_sem]) ?_
  walk_nrm
  refine gw_val T (.pointer (some ⟨pp, 0, none⟩)) rfl rfl (by k_ne) (fun _ => by go_simp) (fun _ => by simp [go_sem]) ?_
  walk_nrm
  refine gw_val T (.pointer (some ⟨pp, 0, none⟩)) rfl rfl (by k_ne) (fun _ => by go_simp) (fun _ => by simp [go_sem]) ?_
  walk_nrm
  refine gw_ld T hrl hF (.slice (some ⟨bp, 0, none⟩) m m) rfl rfl (by k_ne) (fun w hF => by have hc := hc0 _ hF; go_simp) (fun w hF => (fun h => hD _ hF _ fun e he => .inl (h e he)) (fun e he => by have hc := hc0 _ hF; have hm := mem_listed he; simp [go_sem, hc] at hm; exact hm)) ?_
  walk_nrm
  refine gw_val T (.int .i64 t) rfl rfl (by k_ne) (fun _ => by go_simp) (fun _ => by simp [go_sem]) ?_
  walk_nrm
  refine gw_val T (.pointer (some ⟨bp, t, none⟩)) rfl rfl (by k_ne) (fun _ => by go_simp) (fun _ => by simp [go_sem, *]) ?_
  walk_nrm
  refine gw_ld T hrl hF (.chan (some c)) rfl rfl (by k_ne) (fun w hF => by have hc := hc1 _ hF; go_simp) (fun w hF => (fun h => hD _ hF _ fun e he => .inr (h e he)) (fun e he => by have hc := hc1 _ hF; have hm := mem_listed he; simp [go_sem, hc] at hm; exact hm)) ?_
  walk_nrm
  refine gw_ctl T rfl (fun _ => stepG_region_end) ?_
  refine gw_ctl T rfl (fun _ => stepG_region) ?_
  simp only [List.size_toArray, List.length_cons, List.length_nil, Nat.reduceAdd, Nat.zero_add, List.range, List.range.loop]
  refine gw_val T (.agg #[]) rfl rfl (by k_ne) (fun _ => by go_simp) (fun _ => by simp [go_sem]) ?_
  walk_nrm
  refine gw_ctl T rfl (fun _ => stepG_region_end) ?_
  refine gw_ctl T rfl (fun _ => stepG_seq) ?_
  refine gw_ctl T rfl (fun _ => stepG_region) ?_
  simp only [List.size_toArray, List.length_cons, List.length_nil, Nat.reduceAdd, Nat.zero_add, List.range, List.range.loop]
  refine Goes.stop (fun w₁ h₁ => hS _ w₁ (fun w => by rw [stepG_comm rfl rfl (by k_ne) (cases := #[scase c U U]) (blocking := false) (shape := .select) (w' := w) (by simp [go_sem, execOp, scase, Act.eval, U]), listed_nil (by simp [go_sem, execOp, Act.eval])]) rfl ?_ h₁)
  intro R' D' Stop' n' w' T hg
  rw [srv_fr, Frame.finish_at]
  walk_nrm
  unfold UT
  refine gw_val T (.int .i64 0) rfl rfl (by k_ne) (fun _ => by go_simp) (fun _ => by simp [go_sem]) ?_
  walk_nrm
  refine gw_val T (.bool true) rfl rfl (by k_ne) (fun _ => by go_simp) (fun _ => by simp [go_sem]) ?_
  walk_nrm
  refine gw_ctl T rfl (fun _ => stepG_region_end) ?_
  refine gw_ctl T rfl (fun _ => stepG_block) ?_
  refine gw_ctl T rfl (fun _ => stepG_cond (t := true) rfl) ?_
  simp only [if_true]
  refine gw_ctl T rfl (fun _ => stepG_skip) ?_
  refine gw_ctl T rfl (fun _ => stepG_inBlock) ?_
  refine gw_ctl T rfl (fun _ => stepG_seq) ?_
  refine gw_ctl T rfl (fun _ => stepG_region) ?_
  simp only [List.size_toArray, List.length_cons, List.length_nil, Nat.reduceAdd, Nat.zero_add, List.range, List.range.loop]
  refine gw_val T (.bool true) rfl rfl (by k_ne) (fun _ => by go_simp) (fun _ => by simp [go_sem]) ?_
  walk_nrm
  refine gw_ctl T rfl (fun _ => stepG_region_end) ?_
  refine gw_ctl T rfl (fun _ => stepG_ret') ?_
  refine gw_leave1 T rfl rfl Try.func25 rfl ?_
  rw [ho]
  exact hg
end
end Go.Proofs.Ytejedbknpjffkaa.Rl
