/- Permits beside leavers: Len, there, Give, Take, Has, Block, called by goroutine 0. (Steps printed by rlwalk.py.) -/
import Derived.Test.YtejedbknpjffkaaRlV
namespace Go.Proofs.Ytejedbknpjffkaa.Rl
open Go Go.Conc Go.RowKit Go.ConcR.Gen

theorem nm27 : (Try.f27.name == "runtime.NumGoroutine") = false := by kernel_rfl
theorem nm23 : (Try.f23.name == "runtime.NumGoroutine") = false := by kernel_rfl

@[go_sem] theorem run_eq44n (w : World) : (binOp .eql 44 (.pointer none) (.pointer none)).run Try.prog w = .ok (.bool true) w := by kernel_rfl
@[go_sem] theorem events_eq44n (w : World) (es : Array Event) : (binOp .eql 44 (.pointer none) (.pointer none)).events Try.prog w es = es := by kernel_rfl

/-- What a call of function f with these arguments, from this world, comes back with. -/
def Gives (Fin : Machine → Trace → Prop) (Sh : Loc → Prop) (B : Nat) (f : FuncId) (args : Array Value) (W : World) (v : Value) (W' : World) : Prop :=
  ∀ ⦃b : Frame⦄ ⦃a : Act⦄ ⦃k : List Item⦄ ⦃cs : List Frame⦄ ⦃ops : Array Oper⦄ ⦃i : Nat⦄ ⦃rest : List Nat⦄ ⦃o : Oper⦄ ⦃ats : Array TypeId⦄ ⦃xs : Array Operand⦄,
    ops[i]? = some o → Region.wanted o (yielded ops a.tmps) = true → b.kind ≠ .early → o.op = .call { callee := .value (.func f), args := xs, argTypes := ats } → xs.map a.eval = args →
    To Try.prog Fin Sh B (G (b.at (a.put o.dst v) (.inRegion ops rest :: k)) cs) W' → To Try.prog Fin Sh B (G (b.at a (.inRegion ops (i :: rest) :: k)) cs) W

section
variable {Fin : Machine → Trace → Prop} {Sh : Loc → Prop} {B : Nat} {W : World} {pp bp m : Nat}

set_option maxRecDepth 100000 in
theorem c_len (hc0 : W.cell? ⟨pp, 0, none⟩ = some (.slice (some ⟨bp, 0, none⟩) m m)) (hs : ¬ Sh (.cell ⟨pp, 0, none⟩)) (hl : pp < B) :
    Gives Fin Sh B 19 #[.pointer (some ⟨pp, 0, none⟩)] W (.int .i64 m) W := by
  intro b a k cs ops i rest o ats xs ho hw hk hop hx hg
  refine t_call ho hw hk hop Try.func19 nm19 rfl ?_
  rw [hx]
  walk_nrmf Try.f19
  refine t_ctl rfl (fun _ => stepG_seq) ?_
  refine t_ctl rfl (fun _ => stepG_region) ?_
  simp only [List.size_toArray, List.length_cons, List.length_nil, Nat.reduceAdd, Nat.zero_add, List.range, List.range.loop]
  refine t_val (.int .i64 0) rfl rfl (by k_ne) (fun _ => by go_simp) (fun _ => by simp [go_sem]) ?_
  walk_nrm
  refine t_ctl rfl (fun _ => stepG_region_end) ?_
  refine t_ctl rfl (fun _ => stepG_seq) ?_
  refine t_ctl rfl (fun _ => stepG_seq) ?_
  refine t_ctl rfl (fun _ => stepG_region) ?_
  simp only [List.size_toArray, List.length_cons, List.length_nil, Nat.reduceAdd, Nat.zero_add, List.range, List.range.loop]
  refine t_val (.pointer (some ⟨pp, 0, none⟩)) rfl rfl (by k_ne) (fun _ => by go_simp) (fun _ => by simp [go_sem]) ?_
  walk_nrm
  refine t_val (.bool false) rfl rfl (by k_ne) (fun _ => by go_simp) (fun _ => by simp [go_sem]) ?_
  walk_nrm
  refine t_ctl rfl (fun _ => stepG_region_end) ?_
  refine t_ctl rfl (fun _ => stepG_cond (t := false) rfl) ?_
  simp only [if_false, Bool.false_eq_true, ↓reduceIte]
  refine t_ctl rfl (fun _ => stepG_skip) ?_
  refine t_ctl rfl (fun _ => stepG_seq) ?_
  refine t_ctl rfl (fun _ => stepG_region) ?_
  simp only [List.size_toArray, List.length_cons, List.length_nil, Nat.reduceAdd, Nat.zero_add, List.range, List.range.loop]
  refine t_val (.pointer (some ⟨pp, 0, none⟩)) rfl rfl (by k_ne) (fun _ => by go_simp) (fun _ => by simp [go_sem]) ?_
  walk_nrm
  refine t_val (.pointer (some ⟨pp, 0, none⟩)) rfl rfl (by k_ne) (fun _ => by go_simp) (fun _ => by simp [go_sem]) ?_
  walk_nrm
  refine t_val (.pointer (some ⟨pp, 0, none⟩)) rfl rfl (by k_ne) (fun _ => by go_simp) (fun _ => by simp [go_sem]) ?_
  walk_nrm
  refine t_mv (W) (.slice (some ⟨bp, 0, none⟩) m m) rfl rfl (by k_ne) (fun d => by have hc := hc0; go_simp) (fun d e hm => by have hc := hc0; simp [go_sem, hc] at hm; subst hm; exact evL_cell _ _ (hs) (hl)) ?_
  walk_nrm
  refine t_val (.int .i64 m) rfl rfl (by k_ne) (fun _ => by go_simp) (fun _ => by simp [go_sem]) ?_
  walk_nrm
  refine t_val (.int .i64 m) rfl rfl (by k_ne) (fun _ => by go_simp) (fun _ => by simp [go_sem]) ?_
  walk_nrm
  refine t_ctl rfl (fun _ => stepG_region_end) ?_
  refine t_ctl rfl (fun _ => stepG_ret') ?_
  refine t_leave1 rfl rfl Try.func19 rfl ?_
  rw [ho]
  exact hg

set_option maxRecDepth 100000 in
theorem c_len_nil : Gives Fin Sh B 19 #[.pointer none] W (.int .i64 0) W := by
  intro b a k cs ops i rest o ats xs ho hw hk hop hx hg
  refine t_call ho hw hk hop Try.func19 nm19 rfl ?_
  rw [hx]
  walk_nrmf Try.f19
  refine t_ctl rfl (fun _ => stepG_seq) ?_
  refine t_ctl rfl (fun _ => stepG_region) ?_
  simp only [List.size_toArray, List.length_cons, List.length_nil, Nat.reduceAdd, Nat.zero_add, List.range, List.range.loop]
  refine t_val (.int .i64 0) rfl rfl (by k_ne) (fun _ => by go_simp) (fun _ => by simp [go_sem]) ?_
  walk_nrm
  refine t_ctl rfl (fun _ => stepG_region_end) ?_
  refine t_ctl rfl (fun _ => stepG_seq) ?_
  refine t_ctl rfl (fun _ => stepG_seq) ?_
  refine t_ctl rfl (fun _ => stepG_region) ?_
  simp only [List.size_toArray, List.length_cons, List.length_nil, Nat.reduceAdd, Nat.zero_add, List.range, List.range.loop]
  refine t_val (.pointer none) rfl rfl (by k_ne) (fun _ => by go_simp) (fun _ => by simp [go_sem]) ?_
  walk_nrm
  refine t_val (.bool true) rfl rfl (by k_ne) (fun _ => by go_simp) (fun _ => by simp [go_sem]) ?_
  walk_nrm
  refine t_ctl rfl (fun _ => stepG_region_end) ?_
  refine t_ctl rfl (fun _ => stepG_cond (t := true) rfl) ?_
  simp only [if_true]
  refine t_ctl rfl (fun _ => stepG_seq) ?_
  refine t_ctl rfl (fun _ => stepG_region) ?_
  simp only [List.size_toArray, List.length_cons, List.length_nil, Nat.reduceAdd, Nat.zero_add, List.range, List.range.loop]
  refine t_val (.int .i64 0) rfl rfl (by k_ne) (fun _ => by go_simp) (fun _ => by simp [go_sem]) ?_
  walk_nrm
  refine t_ctl rfl (fun _ => stepG_region_end) ?_
  refine t_ctl rfl (fun _ => stepG_ret') ?_
  refine t_leave1 rfl rfl Try.func19 rfl ?_
  rw [ho]
  exact hg

set_option maxRecDepth 100000 in
theorem c_there_neg {p : Option Addr} {t : Int} (ht : t < 0) : Gives Fin Sh B 58 #[.pointer p, .int .i64 t] W (.bool false) W := by
  intro b a k cs ops i rest o ats xs ho hw hk hop hx hg
  have q0 : decide (0 ≤ t) = false := decide_eq_false (by omega)
  refine t_call ho hw hk hop Try.func58 nm58 rfl ?_
  rw [hx]
  walk_nrmf Try.f58
  refine t_ctl rfl (fun _ => stepG_seq) ?_
  refine t_ctl rfl (fun _ => stepG_region) ?_
  simp only [List.size_toArray, List.length_cons, List.length_nil, Nat.reduceAdd, Nat.zero_add, List.range, List.range.loop]
  refine t_val (.bool false) rfl rfl (by k_ne) (fun _ => by go_simp) (fun _ => by simp [go_sem]) ?_
  walk_nrm
  refine t_ctl rfl (fun _ => stepG_region_end) ?_
  refine t_ctl rfl (fun _ => stepG_seq) ?_
  refine t_ctl rfl (fun _ => stepG_region) ?_
  simp only [List.size_toArray, List.length_cons, List.length_nil, Nat.reduceAdd, Nat.zero_add, List.range, List.range.loop]
  refine t_val (.int .i64 t) rfl rfl (by k_ne) (fun _ => by go_simp) (fun _ => by simp [go_sem, *]) ?_
  walk_nrm
  refine t_val (.bool false) rfl rfl (by k_ne) (fun _ => by go_simp) (fun _ => by simp [go_sem, *]) ?_
  walk_nrm
  refine t_val (.bool false) rfl rfl (by k_ne) (fun _ => by go_simp) (fun _ => by simp [go_sem, *]) ?_
  walk_nrm
  refine t_ctl rfl (fun _ => stepG_unwanted rfl rfl) ?_
  walk_nrm
  refine t_ctl rfl (fun _ => stepG_unwanted rfl rfl) ?_
  walk_nrm
  refine t_ctl rfl (fun _ => stepG_unwanted rfl rfl) ?_
  walk_nrm
  refine t_ctl rfl (fun _ => stepG_unwanted rfl rfl) ?_
  walk_nrm
  refine t_val (.bool false) rfl rfl (by k_ne) (fun _ => by go_simp) (fun _ => by simp [go_sem, *]) ?_
  walk_nrm
  refine t_val (.bool false) rfl rfl (by k_ne) (fun _ => by go_simp) (fun _ => by simp [go_sem, *]) ?_
  walk_nrm
  refine t_ctl rfl (fun _ => stepG_region_end) ?_
  refine t_ctl rfl (fun _ => stepG_ret') ?_
  refine t_leave1 rfl rfl Try.func58 rfl ?_
  rw [ho]
  exact hg

set_option maxRecDepth 100000 in
theorem c_there_len {p : Option Addr} {t : Int} (ht : 0 ≤ t) (hlen : Gives Fin Sh B 19 #[.pointer p] W (.int .i64 m) W) : Gives Fin Sh B 58 #[.pointer p, .int .i64 t] W (.bool (decide (t < (m : Int)))) W := by
  intro b a k cs ops i rest o ats xs ho hw hk hop hx hg
  have q0 : decide (0 ≤ t) = true := decide_eq_true ht
  obtain ⟨r, hr⟩ : ∃ r, r = decide (t < (m : Int)) := ⟨_, rfl⟩
  rw [← hr] at hg
  have q1 := hr.symm
  clear hr
  refine t_call ho hw hk hop Try.func58 nm58 rfl ?_
  rw [hx]
  walk_nrmf Try.f58
  refine t_ctl rfl (fun _ => stepG_seq) ?_
  refine t_ctl rfl (fun _ => stepG_region) ?_
  simp only [List.size_toArray, List.length_cons, List.length_nil, Nat.reduceAdd, Nat.zero_add, List.range, List.range.loop]
  refine t_val (.bool false) rfl rfl (by k_ne) (fun _ => by go_simp) (fun _ => by simp [go_sem]) ?_
  walk_nrm
  refine t_ctl rfl (fun _ => stepG_region_end) ?_
  refine t_ctl rfl (fun _ => stepG_seq) ?_
  refine t_ctl rfl (fun _ => stepG_region) ?_
  simp only [List.size_toArray, List.length_cons, List.length_nil, Nat.reduceAdd, Nat.zero_add, List.range, List.range.loop]
  refine t_val (.int .i64 t) rfl rfl (by k_ne) (fun _ => by go_simp) (fun _ => by simp [go_sem, *]) ?_
  walk_nrm
  refine t_val (.bool true) rfl rfl (by k_ne) (fun _ => by go_simp) (fun _ => by simp [go_sem, *]) ?_
  walk_nrm
  refine t_val (.bool true) rfl rfl (by k_ne) (fun _ => by go_simp) (fun _ => by simp [go_sem, *]) ?_
  walk_nrm
  refine t_val (.int .i64 t) rfl rfl (by k_ne) (fun _ => by go_simp) (fun _ => by simp [go_sem, *]) ?_
  walk_nrm
  refine t_val (.pointer p) rfl rfl (by k_ne) (fun _ => by go_simp) (fun _ => by simp [go_sem]) ?_
  walk_nrm
  refine hlen rfl rfl (by k_ne) rfl (by simp [Act.eval]) ?_
  walk_nrm
  refine t_val (.bool r) rfl rfl (by k_ne) (fun _ => by go_simp) (fun _ => by simp [go_sem, *]) ?_
  walk_nrm
  refine t_val (.bool r) rfl rfl (by k_ne) (fun _ => by go_simp) (fun _ => by simp [go_sem, *]) ?_
  walk_nrm
  refine t_val (.bool r) rfl rfl (by k_ne) (fun _ => by go_simp) (fun _ => by simp [go_sem, *]) ?_
  walk_nrm
  refine t_ctl rfl (fun _ => stepG_region_end) ?_
  refine t_ctl rfl (fun _ => stepG_ret') ?_
  refine t_leave1 rfl rfl Try.func58 rfl ?_
  rw [ho]
  exact hg

set_option maxRecDepth 100000 in
theorem c_give_bad {p : Option Addr} {t : Int} (hth : Gives Fin Sh B 58 #[.pointer p, .int .i64 t] W (.bool false) W) : Gives Fin Sh B 25 #[.pointer p, .int .i64 t] W (.bool false) W := by
  intro b a k cs ops i rest o ats xs ho hw hk hop hx hg
  refine t_call ho hw hk hop Try.func25 nm25 rfl ?_
  rw [hx]
  walk_nrmf Try.f25
  refine t_ctl rfl (fun _ => stepG_seq) ?_
  refine t_ctl rfl (fun _ => stepG_region) ?_
  simp only [List.size_toArray, List.length_cons, List.length_nil, Nat.reduceAdd, Nat.zero_add, List.range, List.range.loop]
  refine t_val (.bool false) rfl rfl (by k_ne) (fun _ => by go_simp) (fun _ => by simp [go_sem]) ?_
  walk_nrm
  refine t_ctl rfl (fun _ => stepG_region_end) ?_
  refine t_ctl rfl (fun _ => stepG_seq) ?_
  refine t_ctl rfl (fun _ => stepG_seq) ?_
  refine t_ctl rfl (fun _ => stepG_region) ?_
  simp only [List.size_toArray, List.length_cons, List.length_nil, Nat.reduceAdd, Nat.zero_add, List.range, List.range.loop]
  refine t_val (.pointer p) rfl rfl (by k_ne) (fun _ => by go_simp) (fun _ => by simp [go_sem]) ?_
  walk_nrm
  refine t_val (.int .i64 t) rfl rfl (by k_ne) (fun _ => by go_simp) (fun _ => by simp [go_sem]) ?_
  walk_nrm
  refine hth rfl rfl (by k_ne) rfl (by simp [Act.eval]) ?_
  walk_nrm
  refine t_val (.bool true) rfl rfl (by k_ne) (fun _ => by go_simp) (fun _ => by simp [go_sem]) ?_
  walk_nrm
  refine t_ctl rfl (fun _ => stepG_region_end) ?_
  refine t_ctl rfl (fun _ => stepG_cond (t := true) rfl) ?_
  simp only [if_true]
  refine t_ctl rfl (fun _ => stepG_seq) ?_
  refine t_ctl rfl (fun _ => stepG_region) ?_
  simp only [List.size_toArray, List.length_cons, List.length_nil, Nat.reduceAdd, Nat.zero_add, List.range, List.range.loop]
  refine t_val (.bool false) rfl rfl (by k_ne) (fun _ => by go_simp) (fun _ => by simp [go_sem]) ?_
  walk_nrm
  refine t_ctl rfl (fun _ => stepG_region_end) ?_
  refine t_ctl rfl (fun _ => stepG_ret') ?_
  refine t_leave1 rfl rfl Try.func25 rfl ?_
  rw [ho]
  exact hg

set_option maxRecDepth 100000 in
theorem c_take_bad {p : Option Addr} {t : Int} (hth : Gives Fin Sh B 58 #[.pointer p, .int .i64 t] W (.bool false) W) : Gives Fin Sh B 27 #[.pointer p, .int .i64 t] W (.bool false) W := by
  intro b a k cs ops i rest o ats xs ho hw hk hop hx hg
  refine t_call ho hw hk hop Try.func27 nm27 rfl ?_
  rw [hx]
  walk_nrmf Try.f27
  refine t_ctl rfl (fun _ => stepG_seq) ?_
  refine t_ctl rfl (fun _ => stepG_region) ?_
  simp only [List.size_toArray, List.length_cons, List.length_nil, Nat.reduceAdd, Nat.zero_add, List.range, List.range.loop]
  refine t_val (.bool false) rfl rfl (by k_ne) (fun _ => by go_simp) (fun _ => by simp [go_sem]) ?_
  walk_nrm
  refine t_ctl rfl (fun _ => stepG_region_end) ?_
  refine t_ctl rfl (fun _ => stepG_seq) ?_
  refine t_ctl rfl (fun _ => stepG_seq) ?_
  refine t_ctl rfl (fun _ => stepG_region) ?_
  simp only [List.size_toArray, List.length_cons, List.length_nil, Nat.reduceAdd, Nat.zero_add, List.range, List.range.loop]
  refine t_val (.pointer p) rfl rfl (by k_ne) (fun _ => by go_simp) (fun _ => by simp [go_sem]) ?_
  walk_nrm
  refine t_val (.int .i64 t) rfl rfl (by k_ne) (fun _ => by go_simp) (fun _ => by simp [go_sem]) ?_
  walk_nrm
  refine hth rfl rfl (by k_ne) rfl (by simp [Act.eval]) ?_
  walk_nrm
  refine t_val (.bool true) rfl rfl (by k_ne) (fun _ => by go_simp) (fun _ => by simp [go_sem]) ?_
  walk_nrm
  refine t_ctl rfl (fun _ => stepG_region_end) ?_
  refine t_ctl rfl (fun _ => stepG_cond (t := true) rfl) ?_
  simp only [if_true]
  refine t_ctl rfl (fun _ => stepG_seq) ?_
  refine t_ctl rfl (fun _ => stepG_region) ?_
  simp only [List.size_toArray, List.length_cons, List.length_nil, Nat.reduceAdd, Nat.zero_add, List.range, List.range.loop]
  refine t_val (.bool false) rfl rfl (by k_ne) (fun _ => by go_simp) (fun _ => by simp [go_sem]) ?_
  walk_nrm
  refine t_ctl rfl (fun _ => stepG_region_end) ?_
  refine t_ctl rfl (fun _ => stepG_ret') ?_
  refine t_leave1 rfl rfl Try.func27 rfl ?_
  rw [ho]
  exact hg

set_option maxRecDepth 100000 in
theorem c_block_bad {p : Option Addr} {t : Int} (hth : Gives Fin Sh B 58 #[.pointer p, .int .i64 t] W (.bool false) W) : Gives Fin Sh B 26 #[.pointer p, .int .i64 t] W (.bool false) W := by
  intro b a k cs ops i rest o ats xs ho hw hk hop hx hg
  refine t_call ho hw hk hop Try.func26 nm26 rfl ?_
  rw [hx]
  walk_nrmf Try.f26
  refine t_ctl rfl (fun _ => stepG_seq) ?_
  refine t_ctl rfl (fun _ => stepG_region) ?_
  simp only [List.size_toArray, List.length_cons, List.length_nil, Nat.reduceAdd, Nat.zero_add, List.range, List.range.loop]
  refine t_val (.bool false) rfl rfl (by k_ne) (fun _ => by go_simp) (fun _ => by simp [go_sem]) ?_
  walk_nrm
  refine t_ctl rfl (fun _ => stepG_region_end) ?_
  refine t_ctl rfl (fun _ => stepG_seq) ?_
  refine t_ctl rfl (fun _ => stepG_seq) ?_
  refine t_ctl rfl (fun _ => stepG_region) ?_
  simp only [List.size_toArray, List.length_cons, List.length_nil, Nat.reduceAdd, Nat.zero_add, List.range, List.range.loop]
  refine t_val (.pointer p) rfl rfl (by k_ne) (fun _ => by go_simp) (fun _ => by simp [go_sem]) ?_
  walk_nrm
  refine t_val (.int .i64 t) rfl rfl (by k_ne) (fun _ => by go_simp) (fun _ => by simp [go_sem]) ?_
  walk_nrm
  refine hth rfl rfl (by k_ne) rfl (by simp [Act.eval]) ?_
  walk_nrm
  refine t_val (.bool true) rfl rfl (by k_ne) (fun _ => by go_simp) (fun _ => by simp [go_sem]) ?_
  walk_nrm
  refine t_ctl rfl (fun _ => stepG_region_end) ?_
  refine t_ctl rfl (fun _ => stepG_cond (t := true) rfl) ?_
  simp only [if_true]
  refine t_ctl rfl (fun _ => stepG_seq) ?_
  refine t_ctl rfl (fun _ => stepG_region) ?_
  simp only [List.size_toArray, List.length_cons, List.length_nil, Nat.reduceAdd, Nat.zero_add, List.range, List.range.loop]
  refine t_val (.bool false) rfl rfl (by k_ne) (fun _ => by go_simp) (fun _ => by simp [go_sem]) ?_
  walk_nrm
  refine t_ctl rfl (fun _ => stepG_region_end) ?_
  refine t_ctl rfl (fun _ => stepG_ret') ?_
  refine t_leave1 rfl rfl Try.func26 rfl ?_
  rw [ho]
  exact hg

set_option maxRecDepth 100000 in
theorem c_has_bad {p : Option Addr} {t : Int} (hth : Gives Fin Sh B 58 #[.pointer p, .int .i64 t] W (.bool false) W) : Gives Fin Sh B 23 #[.pointer p, .int .i64 t] W (.bool false) W := by
  intro b a k cs ops i rest o ats xs ho hw hk hop hx hg
  refine t_call ho hw hk hop Try.func23 nm23 rfl ?_
  rw [hx]
  walk_nrmf Try.f23
  refine t_ctl rfl (fun _ => stepG_seq) ?_
  refine t_ctl rfl (fun _ => stepG_region) ?_
  simp only [List.size_toArray, List.length_cons, List.length_nil, Nat.reduceAdd, Nat.zero_add, List.range, List.range.loop]
  refine t_val (.bool false) rfl rfl (by k_ne) (fun _ => by go_simp) (fun _ => by simp [go_sem]) ?_
  walk_nrm
  refine t_ctl rfl (fun _ => stepG_region_end) ?_
  refine t_ctl rfl (fun _ => stepG_seq) ?_
  refine t_ctl rfl (fun _ => stepG_region) ?_
  simp only [List.size_toArray, List.length_cons, List.length_nil, Nat.reduceAdd, Nat.zero_add, List.range, List.range.loop]
  refine t_val (.pointer p) rfl rfl (by k_ne) (fun _ => by go_simp) (fun _ => by simp [go_sem]) ?_
  walk_nrm
  refine t_val (.int .i64 t) rfl rfl (by k_ne) (fun _ => by go_simp) (fun _ => by simp [go_sem]) ?_
  walk_nrm
  refine hth rfl rfl (by k_ne) rfl (by simp [Act.eval]) ?_
  walk_nrm
  refine t_val (.bool false) rfl rfl (by k_ne) (fun _ => by go_simp) (fun _ => by simp [go_sem]) ?_
  walk_nrm
  refine t_ctl rfl (fun _ => stepG_unwanted rfl rfl) ?_
  walk_nrm
  refine t_ctl rfl (fun _ => stepG_unwanted rfl rfl) ?_
  walk_nrm
  refine t_ctl rfl (fun _ => stepG_unwanted rfl rfl) ?_
  walk_nrm
  refine t_ctl rfl (fun _ => stepG_unwanted rfl rfl) ?_
  walk_nrm
  refine t_ctl rfl (fun _ => stepG_unwanted rfl rfl) ?_
  walk_nrm
  refine t_ctl rfl (fun _ => stepG_unwanted rfl rfl) ?_
  walk_nrm
  refine t_ctl rfl (fun _ => stepG_unwanted rfl rfl) ?_
  walk_nrm
  refine t_ctl rfl (fun _ => stepG_unwanted rfl rfl) ?_
  walk_nrm
  refine t_ctl rfl (fun _ => stepG_unwanted rfl rfl) ?_
  walk_nrm
  refine t_val (.bool false) rfl rfl (by k_ne) (fun _ => by go_simp) (fun _ => by simp [go_sem]) ?_
  walk_nrm
  refine t_val (.bool false) rfl rfl (by k_ne) (fun _ => by go_simp) (fun _ => by simp [go_sem]) ?_
  walk_nrm
  refine t_ctl rfl (fun _ => stepG_region_end) ?_
  refine t_ctl rfl (fun _ => stepG_ret') ?_
  refine t_leave1 rfl rfl Try.func23 rfl ?_
  rw [ho]
  exact hg

set_option maxRecDepth 100000 in
set_option maxHeartbeats 1000000 in
theorem c_give (hc0 : W.cell? ⟨pp, 0, none⟩ = some (.slice (some ⟨bp, 0, none⟩) m m)) (hs : ¬ Sh (.cell ⟨pp, 0, none⟩)) (hl : pp < B) {t c : Nat} (ht : t < m) (hc1 : W.cell? ⟨bp, t, none⟩ = some (.chan (some c))) (hs1 : ¬ Sh (.cell ⟨bp, t, none⟩)) (hl1 : bp < B) (hlc : c < B)
    (hth : Gives Fin Sh B 58 #[.pointer (some ⟨pp, 0, none⟩), .int .i64 t] W (.bool true) W) {s r : Nat} (hch : W.heap[c]? = some (.chan 1 #[] false s r false)) : Gives Fin Sh B 25 #[.pointer (some ⟨pp, 0, none⟩), .int .i64 t] W (.bool true) (W.setChan c 1 #[U] false (s + 1) r false) := by
  intro b a k cs ops i rest o ats xs ho hw hk hop hx hg
  have q1 : decide ((t : Int) < (m : Int)) = true := decide_eq_true (by omega)
  have q2 : t < m := ht
  refine t_call ho hw hk hop Try.func25 nm25 rfl ?_
  rw [hx]
  walk_nrmf Try.f25
  refine t_ctl rfl (fun _ => stepG_seq) ?_
  refine t_ctl rfl (fun _ => stepG_region) ?_
  simp only [List.size_toArray, List.length_cons, List.length_nil, Nat.reduceAdd, Nat.zero_add, List.range, List.range.loop]
  refine t_val (.bool false) rfl rfl (by k_ne) (fun _ => by go_simp) (fun _ => by simp [go_sem]) ?_
  walk_nrm
  refine t_ctl rfl (fun _ => stepG_region_end) ?_
  refine t_ctl rfl (fun _ => stepG_seq) ?_
  refine t_ctl rfl (fun _ => stepG_seq) ?_
  refine t_ctl rfl (fun _ => stepG_region) ?_
  simp only [List.size_toArray, List.length_cons, List.length_nil, Nat.reduceAdd, Nat.zero_add, List.range, List.range.loop]
  refine t_val (.pointer (some ⟨pp, 0, none⟩)) rfl rfl (by k_ne) (fun _ => by go_simp) (fun _ => by simp [go_sem]) ?_
  walk_nrm
  refine t_val (.int .i64 t) rfl rfl (by k_ne) (fun _ => by go_simp) (fun _ => by simp [go_sem]) ?_
  walk_nrm
  refine hth rfl rfl (by k_ne) rfl (by simp [Act.eval]) ?_
  walk_nrm
  refine t_val (.bool false) rfl rfl (by k_ne) (fun _ => by go_simp) (fun _ => by simp [go_sem]) ?_
  walk_nrm
  refine t_ctl rfl (fun _ => stepG_region_end) ?_
  refine t_ctl rfl (fun _ => stepG_cond (t := false) rfl) ?_
  simp only [if_false, Bool.false_eq_true, ↓reduceIte]
  refine t_ctl rfl (fun _ => stepG_skip) ?_
  refine t_ctl rfl (fun _ => stepG_seq) ?_
  refine t_ctl rfl (fun _ => stepG_seq) ?_
  refine t_ctl rfl (fun _ => stepG_seq) ?_
  refine t_ctl rfl (fun _ => stepG_region) ?_
  simp only [List.size_toArray, List.length_cons, List.length_nil, Nat.reduceAdd, Nat.zero_add, List.range, List.range.loop]
  refine t_val (.pointer (some ⟨pp, 0, none⟩)) rfl rfl (by k_ne) (fun _ => by go_simp) (fun _ => by simp [go_sem]) ?_
  walk_nrm
  refine t_val (.pointer (some ⟨pp, 0, none⟩)) rfl rfl (by k_ne) (fun _ => by go_simp) (fun _ => by simp [go_sem]) ?_
  walk_nrm
  refine t_val (.pointer (some ⟨pp, 0, none⟩)) rfl rfl (by k_ne) (fun _ => by go_simp) (fun _ => by simp [go_sem]) ?_
  walk_nrm
  refine t_mv (W) (.slice (some ⟨bp, 0, none⟩) m m) rfl rfl (by k_ne) (fun d => by have hc := hc0; go_simp) (fun d e hm => by have hc := hc0; simp [go_sem, hc] at hm; subst hm; exact evL_cell _ _ (hs) (hl)) ?_
  walk_nrm
  refine t_val (.int .i64 t) rfl rfl (by k_ne) (fun _ => by go_simp) (fun _ => by simp [go_sem]) ?_
  walk_nrm
  refine t_val (.pointer (some ⟨bp, t, none⟩)) rfl rfl (by k_ne) (fun _ => by go_simp) (fun _ => by simp [go_sem, *]) ?_
  walk_nrm
  refine t_mv (W) (.chan (some c)) rfl rfl (by k_ne) (fun d => by have hc := hc1; go_simp) (fun d e hm => by have hc := hc1; simp [go_sem, hc] at hm; subst hm; exact evL_cell _ _ (hs1) (hl1)) ?_
  walk_nrm
  refine t_ctl rfl (fun _ => stepG_region_end) ?_
  refine t_ctl rfl (fun _ => stepG_region) ?_
  simp only [List.size_toArray, List.length_cons, List.length_nil, Nat.reduceAdd, Nat.zero_add, List.range, List.range.loop]
  refine t_val (.agg #[]) rfl rfl (by k_ne) (fun _ => by go_simp) (fun _ => by simp [go_sem]) ?_
  walk_nrm
  refine t_ctl rfl (fun _ => stepG_region_end) ?_
  refine t_ctl rfl (fun _ => stepG_seq) ?_
  refine t_ctl rfl (fun _ => stepG_region) ?_
  simp only [List.size_toArray, List.length_cons, List.length_nil, Nat.reduceAdd, Nat.zero_add, List.range, List.range.loop]
  refine t_give rfl (fun w => by rw [stepG_comm rfl rfl (by k_ne) (cases := #[scase c U U]) (blocking := false) (shape := .select) (w' := w) (by simp [go_sem, execOp, scase, Act.eval, U]), listed_nil (by simp [go_sem, execOp, Act.eval])]) hch hlc ?_
  rw [srv_fr, Frame.finish_at]
  walk_nrm
  unfold UT
  refine t_val (.int .i64 0) rfl rfl (by k_ne) (fun _ => by go_simp) (fun _ => by simp [go_sem]) ?_
  walk_nrm
  refine t_val (.bool true) rfl rfl (by k_ne) (fun _ => by go_simp) (fun _ => by simp [go_sem]) ?_
  walk_nrm
  refine t_ctl rfl (fun _ => stepG_region_end) ?_
  refine t_ctl rfl (fun _ => stepG_block) ?_
  refine t_ctl rfl (fun _ => stepG_cond (t := true) rfl) ?_
  simp only [if_true]
  refine t_ctl rfl (fun _ => stepG_skip) ?_
  refine t_ctl rfl (fun _ => stepG_inBlock) ?_
  refine t_ctl rfl (fun _ => stepG_seq) ?_
  refine t_ctl rfl (fun _ => stepG_region) ?_
  simp only [List.size_toArray, List.length_cons, List.length_nil, Nat.reduceAdd, Nat.zero_add, List.range, List.range.loop]
  refine t_val (.bool true) rfl rfl (by k_ne) (fun _ => by go_simp) (fun _ => by simp [go_sem]) ?_
  walk_nrm
  refine t_ctl rfl (fun _ => stepG_region_end) ?_
  refine t_ctl rfl (fun _ => stepG_ret') ?_
  refine t_leave1 rfl rfl Try.func25 rfl ?_
  rw [ho]
  exact hg

set_option maxRecDepth 100000 in
set_option maxHeartbeats 1000000 in
set_option linter.unusedVariables false in
theorem c_give_full (hc0 : W.cell? ⟨pp, 0, none⟩ = some (.slice (some ⟨bp, 0, none⟩) m m)) (hs : ¬ Sh (.cell ⟨pp, 0, none⟩)) (hl : pp < B) {t c : Nat} (ht : t < m) (hc1 : W.cell? ⟨bp, t, none⟩ = some (.chan (some c))) (hs1 : ¬ Sh (.cell ⟨bp, t, none⟩)) (hl1 : bp < B) (hlc : c < B)
    (hth : Gives Fin Sh B 58 #[.pointer (some ⟨pp, 0, none⟩), .int .i64 t] W (.bool true) W) {s r : Nat} (hch : W.heap[c]? = some (.chan 1 #[U] false s r false)) : Gives Fin Sh B 25 #[.pointer (some ⟨pp, 0, none⟩), .int .i64 t] W (.bool true) W := by
  intro b a k cs ops i rest o ats xs ho hw hk hop hx hg
  have q1 : decide ((t : Int) < (m : Int)) = true := decide_eq_true (by omega)
  have q2 : t < m := ht
  refine t_call ho hw hk hop Try.func25 nm25 rfl ?_
  rw [hx]
  walk_nrmf Try.f25
  refine t_ctl rfl (fun _ => stepG_seq) ?_
  refine t_ctl rfl (fun _ => stepG_region) ?_
  simp only [List.size_toArray, List.length_cons, List.length_nil, Nat.reduceAdd, Nat.zero_add, List.range, List.range.loop]
  refine t_val (.bool false) rfl rfl (by k_ne) (fun _ => by go_simp) (fun _ => by simp [go_sem]) ?_
  walk_nrm
  refine t_ctl rfl (fun _ => stepG_region_end) ?_
  refine t_ctl rfl (fun _ => stepG_seq) ?_
  refine t_ctl rfl (fun _ => stepG_seq) ?_
  refine t_ctl rfl (fun _ => stepG_region) ?_
  simp only [List.size_toArray, List.length_cons, List.length_nil, Nat.reduceAdd, Nat.zero_add, List.range, List.range.loop]
  refine t_val (.pointer (some ⟨pp, 0, none⟩)) rfl rfl (by k_ne) (fun _ => by go_simp) (fun _ => by simp [go_sem]) ?_
  walk_nrm
  refine t_val (.int .i64 t) rfl rfl (by k_ne) (fun _ => by go_simp) (fun _ => by simp [go_sem]) ?_
  walk_nrm
  refine hth rfl rfl (by k_ne) rfl (by simp [Act.eval]) ?_
  walk_nrm
  refine t_val (.bool false) rfl rfl (by k_ne) (fun _ => by go_simp) (fun _ => by simp [go_sem]) ?_
  walk_nrm
  refine t_ctl rfl (fun _ => stepG_region_end) ?_
  refine t_ctl rfl (fun _ => stepG_cond (t := false) rfl) ?_
  simp only [if_false, Bool.false_eq_true, ↓reduceIte]
  refine t_ctl rfl (fun _ => stepG_skip) ?_
  refine t_ctl rfl (fun _ => stepG_seq) ?_
  refine t_ctl rfl (fun _ => stepG_seq) ?_
  refine t_ctl rfl (fun _ => stepG_seq) ?_
  refine t_ctl rfl (fun _ => stepG_region) ?_
  simp only [List.size_toArray, List.length_cons, List.length_nil, Nat.reduceAdd, Nat.zero_add, List.range, List.range.loop]
  refine t_val (.pointer (some ⟨pp, 0, none⟩)) rfl rfl (by k_ne) (fun _ => by go_simp) (fun _ => by simp [go_sem]) ?_
  walk_nrm
  refine t_val (.pointer (some ⟨pp, 0, none⟩)) rfl rfl (by k_ne) (fun _ => by go_simp) (fun _ => by simp [go_sem]) ?_
  walk_nrm
  refine t_val (.pointer (some ⟨pp, 0, none⟩)) rfl rfl (by k_ne) (fun _ => by go_simp) (fun _ => by simp [go_sem]) ?_
  walk_nrm
  refine t_mv (W) (.slice (some ⟨bp, 0, none⟩) m m) rfl rfl (by k_ne) (fun d => by have hc := hc0; go_simp) (fun d e hm => by have hc := hc0; simp [go_sem, hc] at hm; subst hm; exact evL_cell _ _ (hs) (hl)) ?_
  walk_nrm
  refine t_val (.int .i64 t) rfl rfl (by k_ne) (fun _ => by go_simp) (fun _ => by simp [go_sem]) ?_
  walk_nrm
  refine t_val (.pointer (some ⟨bp, t, none⟩)) rfl rfl (by k_ne) (fun _ => by go_simp) (fun _ => by simp [go_sem, *]) ?_
  walk_nrm
  refine t_mv (W) (.chan (some c)) rfl rfl (by k_ne) (fun d => by have hc := hc1; go_simp) (fun d e hm => by have hc := hc1; simp [go_sem, hc] at hm; subst hm; exact evL_cell _ _ (hs1) (hl1)) ?_
  walk_nrm
  refine t_ctl rfl (fun _ => stepG_region_end) ?_
  refine t_ctl rfl (fun _ => stepG_region) ?_
  simp only [List.size_toArray, List.length_cons, List.length_nil, Nat.reduceAdd, Nat.zero_add, List.range, List.range.loop]
  refine t_val (.agg #[]) rfl rfl (by k_ne) (fun _ => by go_simp) (fun _ => by simp [go_sem]) ?_
  walk_nrm
  refine t_ctl rfl (fun _ => stepG_region_end) ?_
  refine t_ctl rfl (fun _ => stepG_seq) ?_
  refine t_ctl rfl (fun _ => stepG_region) ?_
  simp only [List.size_toArray, List.length_cons, List.length_nil, Nat.reduceAdd, Nat.zero_add, List.range, List.range.loop]
  refine t_full rfl (fun w => by rw [stepG_comm rfl rfl (by k_ne) (cases := #[scase c U U]) (blocking := false) (shape := .select) (w' := w) (by simp [go_sem, execOp, scase, Act.eval, U]), listed_nil (by simp [go_sem, execOp, Act.eval])]) hch ?_
  rw [srv_fr, Frame.finish_at]
  walk_nrm
  unfold UD
  refine t_val (.int .i64 (-1)) rfl rfl (by k_ne) (fun _ => by go_simp) (fun _ => by simp [go_sem]) ?_
  walk_nrm
  refine t_val (.bool false) rfl rfl (by k_ne) (fun _ => by go_simp) (fun _ => by simp [go_sem]) ?_
  walk_nrm
  refine t_ctl rfl (fun _ => stepG_region_end) ?_
  refine t_ctl rfl (fun _ => stepG_block) ?_
  refine t_ctl rfl (fun _ => stepG_cond (t := false) rfl) ?_
  simp only [if_false, Bool.false_eq_true, ↓reduceIte]
  refine t_ctl rfl (fun _ => stepG_skip) ?_
  refine t_ctl rfl (fun _ => stepG_inBlock) ?_
  refine t_ctl rfl (fun _ => stepG_seq) ?_
  refine t_ctl rfl (fun _ => stepG_region) ?_
  simp only [List.size_toArray, List.length_cons, List.length_nil, Nat.reduceAdd, Nat.zero_add, List.range, List.range.loop]
  refine t_val (.bool true) rfl rfl (by k_ne) (fun _ => by go_simp) (fun _ => by simp [go_sem]) ?_
  walk_nrm
  refine t_ctl rfl (fun _ => stepG_region_end) ?_
  refine t_ctl rfl (fun _ => stepG_ret') ?_
  refine t_leave1 rfl rfl Try.func25 rfl ?_
  rw [ho]
  exact hg

set_option maxRecDepth 100000 in
set_option maxHeartbeats 1000000 in
theorem c_take (hc0 : W.cell? ⟨pp, 0, none⟩ = some (.slice (some ⟨bp, 0, none⟩) m m)) (hs : ¬ Sh (.cell ⟨pp, 0, none⟩)) (hl : pp < B) {t c : Nat} (ht : t < m) (hc1 : W.cell? ⟨bp, t, none⟩ = some (.chan (some c))) (hs1 : ¬ Sh (.cell ⟨bp, t, none⟩)) (hl1 : bp < B) (hlc : c < B)
    (hth : Gives Fin Sh B 58 #[.pointer (some ⟨pp, 0, none⟩), .int .i64 t] W (.bool true) W) {s r : Nat} (hch : W.heap[c]? = some (.chan 1 #[U] false s r false)) : Gives Fin Sh B 27 #[.pointer (some ⟨pp, 0, none⟩), .int .i64 t] W (.bool true) (W.setChan c 1 #[] false s (r + 1) false) := by
  intro b a k cs ops i rest o ats xs ho hw hk hop hx hg
  have q1 : decide ((t : Int) < (m : Int)) = true := decide_eq_true (by omega)
  have q2 : t < m := ht
  refine t_call ho hw hk hop Try.func27 nm27 rfl ?_
  rw [hx]
  walk_nrmf Try.f27
  refine t_ctl rfl (fun _ => stepG_seq) ?_
  refine t_ctl rfl (fun _ => stepG_region) ?_
  simp only [List.size_toArray, List.length_cons, List.length_nil, Nat.reduceAdd, Nat.zero_add, List.range, List.range.loop]
  refine t_val (.bool false) rfl rfl (by k_ne) (fun _ => by go_simp) (fun _ => by simp [go_sem]) ?_
  walk_nrm
  refine t_ctl rfl (fun _ => stepG_region_end) ?_
  refine t_ctl rfl (fun _ => stepG_seq) ?_
  refine t_ctl rfl (fun _ => stepG_seq) ?_
  refine t_ctl rfl (fun _ => stepG_region) ?_
  simp only [List.size_toArray, List.length_cons, List.length_nil, Nat.reduceAdd, Nat.zero_add, List.range, List.range.loop]
  refine t_val (.pointer (some ⟨pp, 0, none⟩)) rfl rfl (by k_ne) (fun _ => by go_simp) (fun _ => by simp [go_sem]) ?_
  walk_nrm
  refine t_val (.int .i64 t) rfl rfl (by k_ne) (fun _ => by go_simp) (fun _ => by simp [go_sem]) ?_
  walk_nrm
  refine hth rfl rfl (by k_ne) rfl (by simp [Act.eval]) ?_
  walk_nrm
  refine t_val (.bool false) rfl rfl (by k_ne) (fun _ => by go_simp) (fun _ => by simp [go_sem]) ?_
  walk_nrm
  refine t_ctl rfl (fun _ => stepG_region_end) ?_
  refine t_ctl rfl (fun _ => stepG_cond (t := false) rfl) ?_
  simp only [if_false, Bool.false_eq_true, ↓reduceIte]
  refine t_ctl rfl (fun _ => stepG_skip) ?_
  refine t_ctl rfl (fun _ => stepG_seq) ?_
  refine t_ctl rfl (fun _ => stepG_region) ?_
  simp only [List.size_toArray, List.length_cons, List.length_nil, Nat.reduceAdd, Nat.zero_add, List.range, List.range.loop]
  refine t_val (.pointer (some ⟨pp, 0, none⟩)) rfl rfl (by k_ne) (fun _ => by go_simp) (fun _ => by simp [go_sem]) ?_
  walk_nrm
  refine t_val (.pointer (some ⟨pp, 0, none⟩)) rfl rfl (by k_ne) (fun _ => by go_simp) (fun _ => by simp [go_sem]) ?_
  walk_nrm
  refine t_val (.pointer (some ⟨pp, 0, none⟩)) rfl rfl (by k_ne) (fun _ => by go_simp) (fun _ => by simp [go_sem]) ?_
  walk_nrm
  refine t_mv (W) (.slice (some ⟨bp, 0, none⟩) m m) rfl rfl (by k_ne) (fun d => by have hc := hc0; go_simp) (fun d e hm => by have hc := hc0; simp [go_sem, hc] at hm; subst hm; exact evL_cell _ _ (hs) (hl)) ?_
  walk_nrm
  refine t_val (.int .i64 t) rfl rfl (by k_ne) (fun _ => by go_simp) (fun _ => by simp [go_sem]) ?_
  walk_nrm
  refine t_val (.pointer (some ⟨bp, t, none⟩)) rfl rfl (by k_ne) (fun _ => by go_simp) (fun _ => by simp [go_sem, *]) ?_
  walk_nrm
  refine t_mv (W) (.chan (some c)) rfl rfl (by k_ne) (fun d => by have hc := hc1; go_simp) (fun d e hm => by have hc := hc1; simp [go_sem, hc] at hm; subst hm; exact evL_cell _ _ (hs1) (hl1)) ?_
  walk_nrm
  refine t_ctl rfl (fun _ => stepG_region_end) ?_
  refine t_ctl rfl (fun _ => stepG_seq) ?_
  refine t_ctl rfl (fun _ => stepG_region) ?_
  simp only [List.size_toArray, List.length_cons, List.length_nil, Nat.reduceAdd, Nat.zero_add, List.range, List.range.loop]
  refine t_take rfl (fun w => by rw [stepG_comm rfl rfl (by k_ne) (cases := #[rcase c U]) (blocking := false) (shape := .select) (w' := w) (by simp [go_sem, execOp, rcase, Act.eval, U]), listed_nil (by simp [go_sem, execOp, Act.eval])]) hch hlc ?_
  rw [srv_fr, Frame.finish_at]
  walk_nrm
  unfold UR
  refine t_val (.int .i64 0) rfl rfl (by k_ne) (fun _ => by go_simp) (fun _ => by simp [go_sem]) ?_
  walk_nrm
  refine t_val (.bool true) rfl rfl (by k_ne) (fun _ => by go_simp) (fun _ => by simp [go_sem]) ?_
  walk_nrm
  refine t_ctl rfl (fun _ => stepG_region_end) ?_
  refine t_ctl rfl (fun _ => stepG_block) ?_
  refine t_ctl rfl (fun _ => stepG_cond (t := true) rfl) ?_
  simp only [if_true]
  refine t_ctl rfl (fun _ => stepG_seq) ?_
  refine t_ctl rfl (fun _ => stepG_region) ?_
  simp only [List.size_toArray, List.length_cons, List.length_nil, Nat.reduceAdd, Nat.zero_add, List.range, List.range.loop]
  refine t_val (.bool true) rfl rfl (by k_ne) (fun _ => by go_simp) (fun _ => by simp [go_sem]) ?_
  walk_nrm
  refine t_ctl rfl (fun _ => stepG_region_end) ?_
  refine t_ctl rfl (fun _ => stepG_ret') ?_
  refine t_leave1 rfl rfl Try.func27 rfl ?_
  rw [ho]
  exact hg

set_option maxRecDepth 100000 in
set_option maxHeartbeats 1000000 in
set_option linter.unusedVariables false in
theorem c_take_none (hc0 : W.cell? ⟨pp, 0, none⟩ = some (.slice (some ⟨bp, 0, none⟩) m m)) (hs : ¬ Sh (.cell ⟨pp, 0, none⟩)) (hl : pp < B) {t c : Nat} (ht : t < m) (hc1 : W.cell? ⟨bp, t, none⟩ = some (.chan (some c))) (hs1 : ¬ Sh (.cell ⟨bp, t, none⟩)) (hl1 : bp < B) (hlc : c < B)
    (hth : Gives Fin Sh B 58 #[.pointer (some ⟨pp, 0, none⟩), .int .i64 t] W (.bool true) W) {s r : Nat} (hch : W.heap[c]? = some (.chan 1 #[] false s r false)) : Gives Fin Sh B 27 #[.pointer (some ⟨pp, 0, none⟩), .int .i64 t] W (.bool false) W := by
  intro b a k cs ops i rest o ats xs ho hw hk hop hx hg
  have q1 : decide ((t : Int) < (m : Int)) = true := decide_eq_true (by omega)
  have q2 : t < m := ht
  refine t_call ho hw hk hop Try.func27 nm27 rfl ?_
  rw [hx]
  walk_nrmf Try.f27
  refine t_ctl rfl (fun _ => stepG_seq) ?_
  refine t_ctl rfl (fun _ => stepG_region) ?_
  simp only [List.size_toArray, List.length_cons, List.length_nil, Nat.reduceAdd, Nat.zero_add, List.range, List.range.loop]
  refine t_val (.bool false) rfl rfl (by k_ne) (fun _ => by go_simp) (fun _ => by simp [go_sem]) ?_
  walk_nrm
  refine t_ctl rfl (fun _ => stepG_region_end) ?_
  refine t_ctl rfl (fun _ => stepG_seq) ?_
  refine t_ctl rfl (fun _ => stepG_seq) ?_
  refine t_ctl rfl (fun _ => stepG_region) ?_
  simp only [List.size_toArray, List.length_cons, List.length_nil, Nat.reduceAdd, Nat.zero_add, List.range, List.range.loop]
  refine t_val (.pointer (some ⟨pp, 0, none⟩)) rfl rfl (by k_ne) (fun _ => by go_simp) (fun _ => by simp [go_sem]) ?_
  walk_nrm
  refine t_val (.int .i64 t) rfl rfl (by k_ne) (fun _ => by go_simp) (fun _ => by simp [go_sem]) ?_
  walk_nrm
  refine hth rfl rfl (by k_ne) rfl (by simp [Act.eval]) ?_
  walk_nrm
  refine t_val (.bool false) rfl rfl (by k_ne) (fun _ => by go_simp) (fun _ => by simp [go_sem]) ?_
  walk_nrm
  refine t_ctl rfl (fun _ => stepG_region_end) ?_
  refine t_ctl rfl (fun _ => stepG_cond (t := false) rfl) ?_
  simp only [if_false, Bool.false_eq_true, ↓reduceIte]
  refine t_ctl rfl (fun _ => stepG_skip) ?_
  refine t_ctl rfl (fun _ => stepG_seq) ?_
  refine t_ctl rfl (fun _ => stepG_region) ?_
  simp only [List.size_toArray, List.length_cons, List.length_nil, Nat.reduceAdd, Nat.zero_add, List.range, List.range.loop]
  refine t_val (.pointer (some ⟨pp, 0, none⟩)) rfl rfl (by k_ne) (fun _ => by go_simp) (fun _ => by simp [go_sem]) ?_
  walk_nrm
  refine t_val (.pointer (some ⟨pp, 0, none⟩)) rfl rfl (by k_ne) (fun _ => by go_simp) (fun _ => by simp [go_sem]) ?_
  walk_nrm
  refine t_val (.pointer (some ⟨pp, 0, none⟩)) rfl rfl (by k_ne) (fun _ => by go_simp) (fun _ => by simp [go_sem]) ?_
  walk_nrm
  refine t_mv (W) (.slice (some ⟨bp, 0, none⟩) m m) rfl rfl (by k_ne) (fun d => by have hc := hc0; go_simp) (fun d e hm => by have hc := hc0; simp [go_sem, hc] at hm; subst hm; exact evL_cell _ _ (hs) (hl)) ?_
  walk_nrm
  refine t_val (.int .i64 t) rfl rfl (by k_ne) (fun _ => by go_simp) (fun _ => by simp [go_sem]) ?_
  walk_nrm
  refine t_val (.pointer (some ⟨bp, t, none⟩)) rfl rfl (by k_ne) (fun _ => by go_simp) (fun _ => by simp [go_sem, *]) ?_
  walk_nrm
  refine t_mv (W) (.chan (some c)) rfl rfl (by k_ne) (fun d => by have hc := hc1; go_simp) (fun d e hm => by have hc := hc1; simp [go_sem, hc] at hm; subst hm; exact evL_cell _ _ (hs1) (hl1)) ?_
  walk_nrm
  refine t_ctl rfl (fun _ => stepG_region_end) ?_
  refine t_ctl rfl (fun _ => stepG_seq) ?_
  refine t_ctl rfl (fun _ => stepG_region) ?_
  simp only [List.size_toArray, List.length_cons, List.length_nil, Nat.reduceAdd, Nat.zero_add, List.range, List.range.loop]
  refine t_none rfl (fun w => by rw [stepG_comm rfl rfl (by k_ne) (cases := #[rcase c U]) (blocking := false) (shape := .select) (w' := w) (by simp [go_sem, execOp, rcase, Act.eval, U]), listed_nil (by simp [go_sem, execOp, Act.eval])]) hch ?_
  rw [srv_fr, Frame.finish_at]
  walk_nrm
  unfold UN
  refine t_val (.int .i64 (-1)) rfl rfl (by k_ne) (fun _ => by go_simp) (fun _ => by simp [go_sem]) ?_
  walk_nrm
  refine t_val (.bool false) rfl rfl (by k_ne) (fun _ => by go_simp) (fun _ => by simp [go_sem]) ?_
  walk_nrm
  refine t_ctl rfl (fun _ => stepG_region_end) ?_
  refine t_ctl rfl (fun _ => stepG_block) ?_
  refine t_ctl rfl (fun _ => stepG_cond (t := false) rfl) ?_
  simp only [if_false, Bool.false_eq_true, ↓reduceIte]
  refine t_ctl rfl (fun _ => stepG_seq) ?_
  refine t_ctl rfl (fun _ => stepG_region) ?_
  simp only [List.size_toArray, List.length_cons, List.length_nil, Nat.reduceAdd, Nat.zero_add, List.range, List.range.loop]
  refine t_val (.bool false) rfl rfl (by k_ne) (fun _ => by go_simp) (fun _ => by simp [go_sem]) ?_
  walk_nrm
  refine t_ctl rfl (fun _ => stepG_region_end) ?_
  refine t_ctl rfl (fun _ => stepG_ret') ?_
  refine t_leave1 rfl rfl Try.func27 rfl ?_
  rw [ho]
  exact hg

set_option maxRecDepth 100000 in
set_option maxHeartbeats 1000000 in
theorem c_block (hc0 : W.cell? ⟨pp, 0, none⟩ = some (.slice (some ⟨bp, 0, none⟩) m m)) (hs : ¬ Sh (.cell ⟨pp, 0, none⟩)) (hl : pp < B) {t c : Nat} (ht : t < m) (hc1 : W.cell? ⟨bp, t, none⟩ = some (.chan (some c))) (hs1 : ¬ Sh (.cell ⟨bp, t, none⟩)) (hl1 : bp < B) (hlc : c < B)
    (hth : Gives Fin Sh B 58 #[.pointer (some ⟨pp, 0, none⟩), .int .i64 t] W (.bool true) W) {s r : Nat} (hch : W.heap[c]? = some (.chan 1 #[U] false s r false)) : Gives Fin Sh B 26 #[.pointer (some ⟨pp, 0, none⟩), .int .i64 t] W (.bool true) (W.setChan c 1 #[] false s (r + 1) false) := by
  intro b a k cs ops i rest o ats xs ho hw hk hop hx hg
  have q1 : decide ((t : Int) < (m : Int)) = true := decide_eq_true (by omega)
  have q2 : t < m := ht
  refine t_call ho hw hk hop Try.func26 nm26 rfl ?_
  rw [hx]
  walk_nrmf Try.f26
  refine t_ctl rfl (fun _ => stepG_seq) ?_
  refine t_ctl rfl (fun _ => stepG_region) ?_
  simp only [List.size_toArray, List.length_cons, List.length_nil, Nat.reduceAdd, Nat.zero_add, List.range, List.range.loop]
  refine t_val (.bool false) rfl rfl (by k_ne) (fun _ => by go_simp) (fun _ => by simp [go_sem]) ?_
  walk_nrm
  refine t_ctl rfl (fun _ => stepG_region_end) ?_
  refine t_ctl rfl (fun _ => stepG_seq) ?_
  refine t_ctl rfl (fun _ => stepG_seq) ?_
  refine t_ctl rfl (fun _ => stepG_region) ?_
  simp only [List.size_toArray, List.length_cons, List.length_nil, Nat.reduceAdd, Nat.zero_add, List.range, List.range.loop]
  refine t_val (.pointer (some ⟨pp, 0, none⟩)) rfl rfl (by k_ne) (fun _ => by go_simp) (fun _ => by simp [go_sem]) ?_
  walk_nrm
  refine t_val (.int .i64 t) rfl rfl (by k_ne) (fun _ => by go_simp) (fun _ => by simp [go_sem]) ?_
  walk_nrm
  refine hth rfl rfl (by k_ne) rfl (by simp [Act.eval]) ?_
  walk_nrm
  refine t_val (.bool false) rfl rfl (by k_ne) (fun _ => by go_simp) (fun _ => by simp [go_sem]) ?_
  walk_nrm
  refine t_ctl rfl (fun _ => stepG_region_end) ?_
  refine t_ctl rfl (fun _ => stepG_cond (t := false) rfl) ?_
  simp only [if_false, Bool.false_eq_true, ↓reduceIte]
  refine t_ctl rfl (fun _ => stepG_skip) ?_
  refine t_ctl rfl (fun _ => stepG_seq) ?_
  refine t_ctl rfl (fun _ => stepG_region) ?_
  simp only [List.size_toArray, List.length_cons, List.length_nil, Nat.reduceAdd, Nat.zero_add, List.range, List.range.loop]
  refine t_val (.pointer (some ⟨pp, 0, none⟩)) rfl rfl (by k_ne) (fun _ => by go_simp) (fun _ => by simp [go_sem]) ?_
  walk_nrm
  refine t_val (.pointer (some ⟨pp, 0, none⟩)) rfl rfl (by k_ne) (fun _ => by go_simp) (fun _ => by simp [go_sem]) ?_
  walk_nrm
  refine t_val (.pointer (some ⟨pp, 0, none⟩)) rfl rfl (by k_ne) (fun _ => by go_simp) (fun _ => by simp [go_sem]) ?_
  walk_nrm
  refine t_mv (W) (.slice (some ⟨bp, 0, none⟩) m m) rfl rfl (by k_ne) (fun d => by have hc := hc0; go_simp) (fun d e hm => by have hc := hc0; simp [go_sem, hc] at hm; subst hm; exact evL_cell _ _ (hs) (hl)) ?_
  walk_nrm
  refine t_val (.int .i64 t) rfl rfl (by k_ne) (fun _ => by go_simp) (fun _ => by simp [go_sem]) ?_
  walk_nrm
  refine t_val (.pointer (some ⟨bp, t, none⟩)) rfl rfl (by k_ne) (fun _ => by go_simp) (fun _ => by simp [go_sem, *]) ?_
  walk_nrm
  refine t_mv (W) (.chan (some c)) rfl rfl (by k_ne) (fun d => by have hc := hc1; go_simp) (fun d e hm => by have hc := hc1; simp [go_sem, hc] at hm; subst hm; exact evL_cell _ _ (hs1) (hl1)) ?_
  walk_nrm
  refine t_block rfl (fun w => by rw [stepG_comm rfl rfl (by k_ne) (cases := #[rcase c U]) (blocking := true) (shape := .recv false) (w' := w) (by simp [go_sem, execOp, rcase, Act.eval, U]), listed_nil (by simp [go_sem, execOp, Act.eval])]) hch hlc ?_
  rw [srv_fr, Frame.finish_at]
  walk_nrm
  refine t_ctl rfl (fun _ => stepG_region_end) ?_
  refine t_ctl rfl (fun _ => stepG_seq) ?_
  refine t_ctl rfl (fun _ => stepG_region) ?_
  simp only [List.size_toArray, List.length_cons, List.length_nil, Nat.reduceAdd, Nat.zero_add, List.range, List.range.loop]
  refine t_val (.bool true) rfl rfl (by k_ne) (fun _ => by go_simp) (fun _ => by simp [go_sem]) ?_
  walk_nrm
  refine t_ctl rfl (fun _ => stepG_region_end) ?_
  refine t_ctl rfl (fun _ => stepG_ret') ?_
  refine t_leave1 rfl rfl Try.func26 rfl ?_
  rw [ho]
  exact hg
end
end Go.Proofs.Ytejedbknpjffkaa.Rl
