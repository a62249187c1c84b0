/- Permits beside leavers: Has; all at what is known of a row of permits; New. (Steps printed by rlwalk.py.) -/
import Derived.Test.YtejedbknpjffkaaRlI
import Derived.Conc.TokenAlone
namespace Go.Proofs.Ytejedbknpjffkaa.Rl
open Go Go.Conc Go.RowKit Go.ConcR.Gen

theorem evL_obj {Sh : Loc → Prop} {B c : Nat} (h : c < B) : EvL Sh B ⟨.obj c, false, true⟩ := by
  refine ⟨fun x hx _ => ?_, by simp, by simp, h⟩
  simp only [MemAct.ofEvent, MemAct.touch?, Option.some.injEq] at hx
  subst hx
  simp

section
variable {Fin : Machine → Trace → Prop} {Sh : Loc → Prop} {B : Nat} {W : World} {pp bp m : Nat}

set_option maxRecDepth 100000 in
set_option maxHeartbeats 1000000 in
theorem c_has (hc0 : W.cell? ⟨pp, 0, none⟩ = some (.slice (some ⟨bp, 0, none⟩) m m)) (hs : ¬ Sh (.cell ⟨pp, 0, none⟩)) (hl : pp < B) {t c : Nat} (ht : t < m) (hc1 : W.cell? ⟨bp, t, none⟩ = some (.chan (some c))) (hs1 : ¬ Sh (.cell ⟨bp, t, none⟩)) (hl1 : bp < B) (hlc : c < B)
    (hth : Gives Fin Sh B 58 #[.pointer (some ⟨pp, 0, none⟩), .int .i64 t] W (.bool true) W) {s r : Nat} {ok : Bool} (hch : W.heap[c]? = some (.chan 1 (if ok then #[U] else #[]) false s r false)) : Gives Fin Sh B 23 #[.pointer (some ⟨pp, 0, none⟩), .int .i64 t] W (.bool ok) W := by
  intro b a k cs ops i rest o ats xs ho hw hk hop hx hg
  have q1 : decide ((t : Int) < (m : Int)) = true := decide_eq_true (by omega)
  have q2 : t < m := ht
  refine t_call ho hw hk hop Try.func23 nm23 rfl ?_
  rw [hx]
  walk_nrmf Try.f23
  refine t_ctl rfl (fun _ => stepG_seq) ?_
  refine t_ctl rfl (fun _ => stepG_region) ?_
  simp only [List.size_toArray, List.length_cons, List.length_nil, Nat.reduceAdd, Nat.zero_add, List.range, List.range.loop]
  refine t_val (.bool false) rfl rfl (by k_ne) (fun _ => by go_simp) (fun _ => by simp [go_sem]) ?_
  walk_nrm
  refine t_ctl rfl (fun _ => stepG_region_end) ?_
  refine t_ctl rfl (fun _ => stepG_seq) ?_
  refine t_ctl rfl (fun _ => stepG_region) ?_
  simp only [List.size_toArray, List.length_cons, List.length_nil, Nat.reduceAdd, Nat.zero_add, List.range, List.range.loop]
  refine t_val (.pointer (some ⟨pp, 0, none⟩)) rfl rfl (by k_ne) (fun _ => by go_simp) (fun _ => by simp [go_sem]) ?_
  walk_nrm
  refine t_val (.int .i64 t) rfl rfl (by k_ne) (fun _ => by go_simp) (fun _ => by simp [go_sem]) ?_
  walk_nrm
  refine hth rfl rfl (by k_ne) rfl (by simp [Act.eval]) ?_
  walk_nrm
  refine t_val (.bool true) rfl rfl (by k_ne) (fun _ => by go_simp) (fun _ => by simp [go_sem]) ?_
  walk_nrm
  refine t_val (.pointer (some ⟨pp, 0, none⟩)) rfl rfl (by k_ne) (fun _ => by go_simp) (fun _ => by simp [go_sem]) ?_
  walk_nrm
  refine t_val (.pointer (some ⟨pp, 0, none⟩)) rfl rfl (by k_ne) (fun _ => by go_simp) (fun _ => by simp [go_sem]) ?_
  walk_nrm
  refine t_val (.pointer (some ⟨pp, 0, none⟩)) rfl rfl (by k_ne) (fun _ => by go_simp) (fun _ => by simp [go_sem]) ?_
  walk_nrm
  refine t_mv (W) (.slice (some ⟨bp, 0, none⟩) m m) rfl rfl (by k_ne) (fun d => by have hc := hc0; go_simp) (fun d e hm => by have hc := hc0; simp [go_sem, hc] at hm; subst hm; exact evL_cell _ _ (hs) (hl)) ?_
  walk_nrm
  refine t_val (.int .i64 t) rfl rfl (by k_ne) (fun _ => by go_simp) (fun _ => by simp [go_sem]) ?_
  walk_nrm
  refine t_val (.pointer (some ⟨bp, t, none⟩)) rfl rfl (by k_ne) (fun _ => by go_simp) (fun _ => by simp [go_sem, *]) ?_
  walk_nrm
  refine t_mv (W) (.chan (some c)) rfl rfl (by k_ne) (fun d => by have hc := hc1; go_simp) (fun d e hm => by have hc := hc1; simp [go_sem, hc] at hm; subst hm; exact evL_cell _ _ (hs1) (hl1)) ?_
  walk_nrm
  have hlen : ∀ d, (Builtin.len_ #[121] 3 #[.chan (some c)]).run Try.prog (W.at d) = .ok (.int .i64 (if ok then 1 else 0)) (W.at d) := fun d => by
    rw [run_len_chan 121 3 Try.underlying121 (w := W.at d) hch]
    cases ok <;> rfl
  have hle : ∀ d es, (Builtin.len_ #[121] 3 #[.chan (some c)]).events Try.prog (W.at d) es = es.push ⟨.obj c, false, true⟩ := fun d es => events_len_chan 121 3 Try.underlying121 (w := W.at d) hch es
  refine t_mv W (.int .i64 (if ok then 1 else 0)) rfl rfl (by k_ne) (fun d => by have h := hlen d; go_simp) (fun d e hm => by have h := hle d; simp [go_sem, h] at hm; subst hm; exact evL_obj hlc) ?_
  walk_nrm
  cases ok with
  | true =>
    refine t_val (.bool true) rfl rfl (by k_ne) (fun _ => by go_simp) (fun _ => by simp [go_sem]) ?_
    walk_nrm
    refine t_val (.bool true) rfl rfl (by k_ne) (fun _ => by go_simp) (fun _ => by simp [go_sem]) ?_
    walk_nrm
    refine t_val (.bool true) rfl rfl (by k_ne) (fun _ => by go_simp) (fun _ => by simp [go_sem]) ?_
    walk_nrm
    refine t_ctl rfl (fun _ => stepG_region_end) ?_
    refine t_ctl rfl (fun _ => stepG_ret') ?_
    refine t_leave1 rfl rfl Try.func23 rfl ?_
    rw [ho]
    exact hg
  | false =>
    refine t_val (.bool false) rfl rfl (by k_ne) (fun _ => by go_simp) (fun _ => by simp [go_sem]) ?_
    walk_nrm
    refine t_val (.bool false) rfl rfl (by k_ne) (fun _ => by go_simp) (fun _ => by simp [go_sem]) ?_
    walk_nrm
    refine t_val (.bool false) rfl rfl (by k_ne) (fun _ => by go_simp) (fun _ => by simp [go_sem]) ?_
    walk_nrm
    refine t_ctl rfl (fun _ => stepG_region_end) ?_
    refine t_ctl rfl (fun _ => stepG_ret') ?_
    refine t_leave1 rfl rfl Try.func23 rfl ?_
    rw [ho]
    exact hg
end

/-! ### a row of permits: its cells in block N, its record in N + 1, its channels behind -/
structure PB (Sh : Loc → Prop) (B N n : Nat) (has : Nat → Bool) (W : World) : Prop where
  row : ∀ i, i < n → W.cell? ⟨N, i, none⟩ = some (.chan (some (N + 2 + i)))
  str : W.cell? ⟨N + 1, 0, none⟩ = some (.slice (some ⟨N, 0, none⟩) n n)
  chan : ∀ i, i < n → ∃ s r, W.heap[N + 2 + i]? = some (.chan 1 (if has i then #[U] else #[]) false s r false)
  nsh : ∀ a : Addr, a.block = N ∨ a.block = N + 1 → ¬ Sh (.cell a)
  low : N + 2 + n ≤ B

/-- Only the blocks from lo to hi may have turned. -/
structure Pm (lo hi : Nat) (W W' : World) : Prop where
  tape : W'.tape = W.tape
  os : W'.os = W.os
  output : W'.output = W.output
  size : W'.heap.size = W.heap.size
  block : ∀ b, b < lo ∨ hi ≤ b → W'.heap[b]? = W.heap[b]?
theorem Pm.refl (lo hi : Nat) (W : World) : Pm lo hi W W := ⟨rfl, rfl, rfl, rfl, fun _ _ => rfl⟩
theorem Pm.trans {lo hi : Nat} {a b c : World} (h : Pm lo hi a b) (k : Pm lo hi b c) : Pm lo hi a c :=
  ⟨k.tape.trans h.tape, k.os.trans h.os, k.output.trans h.output, k.size.trans h.size, fun x hx => (k.block x hx).trans (h.block x hx)⟩
theorem Pm.below {lo hi : Nat} {a b : World} (h : Pm lo hi a b) : Below lo a b := ⟨h.os, h.tape, h.output, Nat.le_of_eq h.size.symm, fun k hk => h.block k (.inl hk)⟩

def put (has : Nat → Bool) (t : Nat) (v : Bool) (i : Nat) : Bool := if i = t then v else has i

section
variable {Fin : Machine → Trace → Prop} {Sh : Loc → Prop} {B N n : Nat} {W : World} {has : Nat → Bool}

theorem PB.set (h : PB Sh B N n has W) {t : Nat} (ht : t < n) {v : Bool} {s r s' r' : Nat} {b : Array Value} (hc : W.heap[N + 2 + t]? = some (.chan 1 b false s r false)) :
    PB Sh B N n (put has t v) (W.setChan (N + 2 + t) 1 (if v then #[U] else #[]) false s' r' false) ∧ Pm (N + 2) (N + 2 + n) W (W.setChan (N + 2 + t) 1 (if v then #[U] else #[]) false s' r' false) := by
  have hAs := aside_setChan W (N + 2 + t) 1 (if v then #[U] else #[]) false s' r' false
  have hhp := heap_setChan W (cap := 1) (b := if v then #[U] else #[]) (cl := false) (s := s') (r := r') (tm := false) hc
  refine ⟨⟨fun i hi => ?_, ?_, fun i hi => ?_, h.nsh, h.low⟩, ⟨hAs.tape, hAs.os, hAs.output, hAs.size, fun b hb => hAs.block _ (by omega)⟩⟩
  · rw [cell_same (hAs.block _ (show N ≠ N + 2 + t by omega))]; exact h.row i hi
  · rw [cell_same (hAs.block _ (show N + 1 ≠ N + 2 + t by omega))]; exact h.str
  · by_cases e : i = t
    · subst e
      exact ⟨s', r', by rw [hhp]; simp [put]⟩
    · obtain ⟨s1, r1, h1⟩ := h.chan i hi
      exact ⟨s1, r1, by rw [hAs.block _ (by omega), h1]; simp [put, e]⟩
theorem PB.same (h : PB Sh B N n has W) {t : Nat} {v : Bool} (hv : has t = v) : PB Sh B N n (put has t v) W :=
  ⟨h.row, h.str, fun i hi => by
    obtain ⟨s1, r1, h1⟩ := h.chan i hi
    refine ⟨s1, r1, ?_⟩
    rw [h1]
    by_cases e : i = t
    · subst e; simp [put, hv]
    · simp [put, e], h.nsh, h.low⟩

theorem PB.len (h : PB Sh B N n has W) : Gives Fin Sh B 19 #[.pointer (some ⟨N + 1, 0, none⟩)] W (.int .i64 n) W :=
  c_len h.str (h.nsh _ (.inr rfl)) (by have := h.low; omega)
theorem PB.there (h : PB Sh B N n has W) {t : Nat} (ht : t < n) : Gives Fin Sh B 58 #[.pointer (some ⟨N + 1, 0, none⟩), .int .i64 t] W (.bool true) W := by
  have := c_there_len (Fin := Fin) (Sh := Sh) (B := B) (W := W) (p := some ⟨N + 1, 0, none⟩) (t := t) (m := n) (by omega) h.len
  rwa [decide_eq_true (by omega)] at this
theorem PB.out (h : PB Sh B N n has W) {t : Int} (ht : ¬ (0 ≤ t ∧ t < n)) : Gives Fin Sh B 58 #[.pointer (some ⟨N + 1, 0, none⟩), .int .i64 t] W (.bool false) W := by
  by_cases h0 : 0 ≤ t
  · have := c_there_len (Fin := Fin) (Sh := Sh) (B := B) (W := W) (p := some ⟨N + 1, 0, none⟩) (t := t) (m := n) h0 h.len
    rwa [decide_eq_false (by omega)] at this
  · exact c_there_neg (by omega)
theorem there_nil {t : Int} : Gives Fin Sh B 58 #[.pointer none, .int .i64 t] W (.bool false) W := by
  by_cases h0 : 0 ≤ t
  · have := c_there_len (Fin := Fin) (Sh := Sh) (B := B) (W := W) (p := none) (t := t) (m := 0) h0 c_len_nil
    rwa [decide_eq_false (by omega)] at this
  · exact c_there_neg (by omega)

theorem PB.give (h : PB Sh B N n has W) {t : Nat} (ht : t < n) : ∃ W', Gives Fin Sh B 25 #[.pointer (some ⟨N + 1, 0, none⟩), .int .i64 t] W (.bool true) W' ∧ PB Sh B N n (put has t true) W' ∧ Pm (N + 2) (N + 2 + n) W W' := by
  have hl := h.low
  obtain ⟨s, r, hc⟩ := h.chan t ht
  cases hh : has t with
  | true =>
    rw [hh] at hc
    exact ⟨W, c_give_full h.str (h.nsh _ (.inr rfl)) (by omega) ht (h.row t ht) (h.nsh _ (.inl rfl)) (by omega) (by omega) (h.there ht) hc, h.same hh, .refl _ _ _⟩
  | false =>
    rw [hh] at hc
    have := h.set ht (v := true) (s' := s + 1) (r' := r) hc
    exact ⟨_, c_give h.str (h.nsh _ (.inr rfl)) (by omega) ht (h.row t ht) (h.nsh _ (.inl rfl)) (by omega) (by omega) (h.there ht) hc, this.1, this.2⟩
theorem PB.take (h : PB Sh B N n has W) {t : Nat} (ht : t < n) : ∃ W', Gives Fin Sh B 27 #[.pointer (some ⟨N + 1, 0, none⟩), .int .i64 t] W (.bool (has t)) W' ∧ PB Sh B N n (put has t false) W' ∧ Pm (N + 2) (N + 2 + n) W W' := by
  have hl := h.low
  obtain ⟨s, r, hc⟩ := h.chan t ht
  cases hh : has t with
  | false =>
    rw [hh] at hc
    exact ⟨W, c_take_none h.str (h.nsh _ (.inr rfl)) (by omega) ht (h.row t ht) (h.nsh _ (.inl rfl)) (by omega) (by omega) (h.there ht) hc, h.same hh, .refl _ _ _⟩
  | true =>
    rw [hh] at hc
    have := h.set ht (v := false) (s' := s) (r' := r + 1) hc
    exact ⟨_, c_take h.str (h.nsh _ (.inr rfl)) (by omega) ht (h.row t ht) (h.nsh _ (.inl rfl)) (by omega) (by omega) (h.there ht) hc, this.1, this.2⟩
theorem PB.block (h : PB Sh B N n has W) {t : Nat} (ht : t < n) (hh : has t = true) : ∃ W', Gives Fin Sh B 26 #[.pointer (some ⟨N + 1, 0, none⟩), .int .i64 t] W (.bool true) W' ∧ PB Sh B N n (put has t false) W' ∧ Pm (N + 2) (N + 2 + n) W W' := by
  have hl := h.low
  obtain ⟨s, r, hc⟩ := h.chan t ht
  rw [hh] at hc
  have := h.set ht (v := false) (s' := s) (r' := r + 1) hc
  exact ⟨_, c_block h.str (h.nsh _ (.inr rfl)) (by omega) ht (h.row t ht) (h.nsh _ (.inl rfl)) (by omega) (by omega) (h.there ht) hc, this.1, this.2⟩
theorem PB.tells (h : PB Sh B N n has W) {t : Nat} (ht : t < n) : Gives Fin Sh B 23 #[.pointer (some ⟨N + 1, 0, none⟩), .int .i64 t] W (.bool (has t)) W := by
  have hl := h.low
  obtain ⟨s, r, hc⟩ := h.chan t ht
  exact c_has h.str (h.nsh _ (.inr rfl)) (by omega) ht (h.row t ht) (h.nsh _ (.inl rfl)) (by omega) (by omega) (h.there ht) hc
end
end Go.Proofs.Ytejedbknpjffkaa.Rl
