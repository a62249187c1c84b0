/- permit.New beside leavers: its loop; all of it. (Steps printed by rlr.py and rlwalk.py.) -/
import Derived.Test.YtejedbknpjffkaaRlO
namespace Go.Proofs.Ytejedbknpjffkaa.Rl
open Go Go.Conc Go.RowKit Go.ConcR.Gen

section
variable {Fin : Machine → Trace → Prop} {Sh : Loc → Prop} {B N n : Nat} {W0 : World} {cs : List Frame} {j1 : Value}

set_option maxRecDepth 100000 in
set_option maxHeartbeats 1000000 in
theorem new_loop (hN : W0.heap.size = N) (hn : n ≤ 32766) (hB : N + 2 ≤ B) (hns : ∀ a : Addr, a.block = N ∨ a.block = N + 1 → ¬ Sh (.cell a))
    (hend : ∀ (j4 j5 j6 j7 j8 j9 j10 j11 j12 j13 j14 j15 j16 j17 j18 j21 j22 j23 j24 j25 j26 j27 j28 j29 j30 j31 : Value) (W : World), MK W0 n n W → To Try.prog Fin Sh B (G ((base 18).at ⟨#[.int .i64 n, j1, .pointer none, .pointer (some ⟨N + 1, 0, none⟩), j4, j5, j6, j7, j8, j9, j10, j11, j12, j13, j14, j15, j16, j17, j18, .int .i64 n, .int .i64 n, j21, j22, j23, j24, j25, j26, j27, j28, j29, j30, j31], []⟩ [.code E18]) cs) W) :
    ∀ (r k : Nat), k + r = n → ∀ (j4 j5 j6 j7 j8 j9 j10 j11 j12 j13 j14 j15 j16 j17 j18 j21 j22 j23 j24 j25 j26 j27 j28 j29 j30 j31 : Value) (W : World), MK W0 n k W → To Try.prog Fin Sh B (G ((base 18).at ⟨#[.int .i64 n, j1, .pointer none, .pointer (some ⟨N + 1, 0, none⟩), j4, j5, j6, j7, j8, j9, j10, j11, j12, j13, j14, j15, j16, j17, j18, .int .i64 n, .int .i64 k, j21, j22, j23, j24, j25, j26, j27, j28, j29, j30, j31], []⟩ [.code L18, .inLoop L18, .inBlock 0, .code E18]) cs) W
  | 0, k, e, j4, j5, j6, j7, j8, j9, j10, j11, j12, j13, j14, j15, j16, j17, j18, j21, j22, j23, j24, j25, j26, j27, j28, j29, j30, j31, W, hM => by
    obtain rfl : k = n := by omega
    have q : decide ((k : Int) < (k : Int)) = false := decide_eq_false (by omega)
    have h := hend j4 j5 j6 j7 j8 j9 j10 j11 j12 j13 j14 j15 j16 j17 j18 (.bool false) j22 j23 j24 j25 j26 j27 j28 j29 j30 j31 W hM
    generalize E18 = E at h ⊢
    simp only [L18, LB18, body18, Try.f18, Option.getD_some]
    refine t_ctl rfl (fun _ => stepG_seq) ?_
    refine t_ctl rfl (fun _ => stepG_region) ?_
    simp only [List.size_toArray, List.length_cons, List.length_nil, Nat.reduceAdd, Nat.zero_add, List.range, List.range.loop]
    refine t_val (.bool false) rfl rfl (by k_ne) (fun _ => by go_simp) (fun _ => by simp [go_sem, *]) ?_
    walk_nrm
    refine t_ctl rfl (fun _ => stepG_region_end) ?_
    refine t_ctl rfl (fun _ => stepG_seq) ?_
    refine t_ctl rfl (fun _ => stepG_cond (t := false) rfl) ?_
    simp only [if_false, Bool.false_eq_true, ↓reduceIte]
    refine t_ctl rfl (fun _ => stepG_exit rfl) ?_
    exact h
  | r + 1, k, e, j4, j5, j6, j7, j8, j9, j10, j11, j12, j13, j14, j15, j16, j17, j18, j21, j22, j23, j24, j25, j26, j27, j28, j29, j30, j31, W, hM => by
    have q : decide ((k : Int) < (n : Int)) = true := decide_eq_true (by omega)
    have q2 : k < n := by omega
    have qk : IntKind.i64.wrap ((k : Int) + 1) = (k : Int) + 1 := by rw [IntKind.wrap_i64]; omega
    have hsz := hM.size
    rw [hN] at hsz
    obtain ⟨C, hC, hCs, hCc⟩ := hM.arr
    rw [hN] at hC
    have hstr := hM.str
    rw [hN] at hstr
    have hA : (W.alloc (.chan 1 #[] false 0 0 false)).heap[N]? = some (.cells C 121) := al hC _
    have hD := fun (j5 j6 j7 j8 j9 j10 j11 j12 j13 j14 j15 j16 j17 j18 j21 j22 j23 j24 j25 j26 j27 j28 j29 j30 j31 : Value) => new_drawn (Fin := Fin) (Sh := Sh) (B := B) (N := N) (n := n) (k := k) (W := W) (cs := cs) (j1 := j1) j5 j6 j7 j8 j9 j10 j11 j12 j13 j14 j15 j16 j17 j18 j21 j22 j23 j24 j25 j26 j27 j28 j29 j30 j31 (by omega) (cell_of (i := 0) hstr rfl) (cell_of (i := 0) (al hstr _) rfl) hsz
      ⟨_, cell_of (i := k) hA (Array.getElem?_eq_getElem (by omega))⟩ (fz_of hA) rfl hns hB
    have hM' := hM.next (k := k) (by omega)
    rw [hN] at hM'
    have ih := fun (j4 j5 j6 j7 j8 j9 j10 j11 j12 j13 j14 j15 j16 j17 j18 j21 j22 j23 j24 j25 j26 j27 j28 j29 j30 j31 : Value) => new_loop hN hn hB hns hend r (k + 1) (by omega) j4 j5 j6 j7 j8 j9 j10 j11 j12 j13 j14 j15 j16 j17 j18 j21 j22 j23 j24 j25 j26 j27 j28 j29 j30 j31 _ hM'
    generalize hE : E18 = E at hD ih ⊢
    have key : ∀ (j5 j6 j7 j8 j9 j10 j11 j12 j13 j14 j15 j16 j17 j18 j21 j22 j23 j24 j25 j26 j27 j28 j29 j30 j31 : Value), To Try.prog Fin Sh B (G ((base 18).at ⟨#[.int .i64 n, j1, .pointer none, .pointer (some ⟨N + 1, 0, none⟩), .int .i64 k, j5, j6, j7, j8, j9, j10, j11, j12, j13, j14, j15, j16, j17, j18, .int .i64 n, .int .i64 k, j21, j22, .pointer (some ⟨N + 1, 0, none⟩), .pointer (some ⟨N + 1, 0, none⟩), .pointer (some ⟨N + 1, 0, none⟩), .slice (some ⟨N, 0, none⟩) n n, .int .i64 k, .chan (some (N + 2 + k)), .pointer (some ⟨N, k, none⟩), j30, j31], []⟩ (.inRegion O7 [] :: [.inBlock 1, .code R8, .inLoop L18, .inBlock 0, .code E])) cs) ((W.alloc (.chan 1 #[] false 0 0 false)).setCell ⟨N, k, none⟩ (.chan (some (N + 2 + k)))) := by
      intro j5 j6 j7 j8 j9 j10 j11 j12 j13 j14 j15 j16 j17 j18 j21 j22 j23 j24 j25 j26 j27 j28 j29 j30 j31
      have ih := ih (.int .i64 k) j5 j6 j7 j8 j9 j10 j11 j12 j13 j14 j15 j16 j17 j18 j21 j22 (.pointer (some ⟨N + 1, 0, none⟩)) (.pointer (some ⟨N + 1, 0, none⟩)) (.pointer (some ⟨N + 1, 0, none⟩)) (.slice (some ⟨N, 0, none⟩) n n) (.int .i64 k) (.chan (some (N + 2 + k))) (.pointer (some ⟨N, k, none⟩)) (.int .i64 (k + 1 : Nat)) j31
      simp only [R8, L18, LB18, body18, Try.f18, Option.getD_some] at ih ⊢
      refine t_ctl rfl (fun _ => stepG_region_end) ?_
      refine t_ctl rfl (fun _ => stepG_inBlock) ?_
      refine t_ctl rfl (fun _ => stepG_region) ?_
      simp only [List.size_toArray, List.length_cons, List.length_nil, Nat.reduceAdd, Nat.zero_add, List.range, List.range.loop]
      refine t_val (.int .i64 (k + 1 : Nat)) rfl rfl (by k_ne) (fun _ => by go_simp) (fun _ => by simp [go_sem, *]) ?_
      walk_nrm
      refine t_val (.int .i64 (k + 1 : Nat)) rfl rfl (by k_ne) (fun _ => by go_simp) (fun _ => by simp [go_sem]) ?_
      walk_nrm
      refine t_ctl rfl (fun _ => stepG_region_end) ?_
      refine t_ctl rfl (fun _ => stepG_inLoop) ?_
      exact ih
    simp only [L18, LB18, body18, Try.f18, Option.getD_some]
    refine t_ctl rfl (fun _ => stepG_seq) ?_
    refine t_ctl rfl (fun _ => stepG_region) ?_
    simp only [List.size_toArray, List.length_cons, List.length_nil, Nat.reduceAdd, Nat.zero_add, List.range, List.range.loop]
    refine t_val (.bool true) rfl rfl (by k_ne) (fun _ => by go_simp) (fun _ => by simp [go_sem, *]) ?_
    walk_nrm
    refine t_ctl rfl (fun _ => stepG_region_end) ?_
    refine t_ctl rfl (fun _ => stepG_seq) ?_
    refine t_ctl rfl (fun _ => stepG_cond (t := true) rfl) ?_
    simp only [if_true]
    refine t_ctl rfl (fun _ => stepG_skip) ?_
    refine t_ctl rfl (fun _ => stepG_seq) ?_
    refine t_ctl rfl (fun _ => stepG_block) ?_
    refine t_ctl rfl (fun _ => stepG_seq) ?_
    refine t_ctl rfl (fun _ => stepG_region) ?_
    simp only [List.size_toArray, List.length_cons, List.length_nil, Nat.reduceAdd, Nat.zero_add, List.range, List.range.loop]
    refine t_val (.int .i64 k) rfl rfl (by k_ne) (fun _ => by go_simp) (fun _ => by simp [go_sem]) ?_
    walk_nrm
    refine t_val (.int .i64 k) rfl rfl (by k_ne) (fun _ => by go_simp) (fun _ => by simp [go_sem]) ?_
    walk_nrm
    refine t_ctl rfl (fun _ => stepG_region_end) ?_
    refine t_draw mixed (fun q => ?_)
    exact hD j5 j6 j7 j8 j9 j10 j11 j12 j13 j14 j15 j16 j17 j18 (.bool true) (.int .i64 k) j23 j24 j25 j26 j27 j28 j29 j30 j31 (key j5 j6 j7 j8 j9 j10 j11 j12 j13 j14 j15 j16 j17 j18 (.bool true) (.int .i64 k) j23 j24 j25 j26 j27 j28 j29 j30 j31) q

/-- what is known at New's end -/
theorem MK.pb {W : World} (h : MK W0 n n W) (hB : W0.heap.size + 2 + n ≤ B) (hns : ∀ a : Addr, a.block = W0.heap.size ∨ a.block = W0.heap.size + 1 → ¬ Sh (.cell a)) : PB Sh B W0.heap.size n (fun _ => false) W := by
  obtain ⟨C, hC, hs, hc⟩ := h.arr
  exact ⟨fun i hi => cell_of hC (hc i hi), cell_of h.str rfl, fun i hi => ⟨0, 0, by simpa using h.chan i hi⟩, hns, hB⟩

set_option maxRecDepth 100000 in
set_option maxHeartbeats 1000000 in
theorem c_new {W : World} (h1 : 1 ≤ n) (hn : n ≤ 32766) (hB : W.heap.size + 2 ≤ B) (hns : ∀ a : Addr, a.block = W.heap.size ∨ a.block = W.heap.size + 1 → ¬ Sh (.cell a))
    {b : Frame} {a : Act} {k : List Item} {cs : List Frame} {ops : Array Oper} {i : Nat} {rest : List Nat} {o : Oper} {ats : Array TypeId} {xs : Array Operand}
    (ho : ops[i]? = some o) (hw : Region.wanted o (yielded ops a.tmps) = true) (hk : b.kind ≠ .early) (hop : o.op = .call { callee := .value (.func 18), args := xs, argTypes := ats }) (hx : xs.map a.eval = #[.int .i64 n])
    (hg : ∀ W', MK W n n W' → To Try.prog Fin Sh B (G (b.at (a.put o.dst (.pointer (some ⟨W.heap.size + 1, 0, none⟩))) (.inRegion ops rest :: k)) cs) W') : To Try.prog Fin Sh B (G (b.at a (.inRegion ops (i :: rest) :: k)) cs) W := by
  have hl := fun cs j1 => new_loop (Fin := Fin) (Sh := Sh) (B := B) (N := W.heap.size) (n := n) (W0 := W) (cs := cs) (j1 := j1) rfl hn hB hns
  have d1 : decide ((n : Int) < 1) = false := decide_eq_false (by omega)
  have d2 : decide (32766 < (n : Int)) = false := decide_eq_false (by omega)
  have d3 : ¬ n = 0 := by omega
  have d4 : ¬ 32766 < n := by omega
  refine t_call ho hw hk hop Try.func18 nm18 rfl ?_
  rw [hx]
  walk_nrmf Try.f18
  refine t_ctl rfl (fun _ => stepG_seq) ?_
  refine t_ctl rfl (fun _ => stepG_region) ?_
  simp only [List.size_toArray, List.length_cons, List.length_nil, Nat.reduceAdd, Nat.zero_add, List.range, List.range.loop]
  refine t_val (.pointer none) rfl rfl (by k_ne) (fun _ => by go_simp) (fun _ => by simp [go_sem]) ?_
  walk_nrm
  refine t_ctl rfl (fun _ => stepG_region_end) ?_
  refine t_ctl rfl (fun _ => stepG_seq) ?_
  refine t_ctl rfl (fun _ => stepG_seq) ?_
  refine t_ctl rfl (fun _ => stepG_region) ?_
  simp only [List.size_toArray, List.length_cons, List.length_nil, Nat.reduceAdd, Nat.zero_add, List.range, List.range.loop]
  refine t_val (.int .i64 n) rfl rfl (by k_ne) (fun _ => by go_simp) (fun _ => by simp [go_sem]) ?_
  walk_nrm
  refine t_val (.bool false) rfl rfl (by k_ne) (fun _ => by go_simp) (fun _ => by simp [go_sem, *]) ?_
  walk_nrm
  refine t_val (.bool false) rfl rfl (by k_ne) (fun _ => by go_simp) (fun _ => by simp [go_sem, *]) ?_
  walk_nrm
  refine t_val (.int .i64 n) rfl rfl (by k_ne) (fun _ => by go_simp) (fun _ => by simp [go_sem]) ?_
  walk_nrm
  refine t_val (.bool false) rfl rfl (by k_ne) (fun _ => by go_simp) (fun _ => by simp [go_sem, *]) ?_
  walk_nrm
  refine t_val (.bool false) rfl rfl (by k_ne) (fun _ => by go_simp) (fun _ => by simp [go_sem, *]) ?_
  walk_nrm
  refine t_ctl rfl (fun _ => stepG_region_end) ?_
  refine t_ctl rfl (fun _ => stepG_cond (t := false) rfl) ?_
  simp only [if_false, Bool.false_eq_true, ↓reduceIte]
  refine t_ctl rfl (fun _ => stepG_skip) ?_
  refine t_ctl rfl (fun _ => stepG_seq) ?_
  refine t_ctl rfl (fun _ => stepG_region) ?_
  simp only [List.size_toArray, List.length_cons, List.length_nil, Nat.reduceAdd, Nat.zero_add, List.range, List.range.loop]
  refine t_val (.int .i64 n) rfl rfl (by k_ne) (fun _ => by go_simp) (fun _ => by simp [go_sem]) ?_
  walk_nrm
  refine t_mv (W.alloc (.cells (List.replicate n (Value.chan none)).toArray 121)) (.slice (some ⟨W.heap.size, 0, none⟩) n n) rfl rfl (by k_ne) (fun d => by have h1 := make_chans n hn (W.at d); rw [at_alloc, at_size] at h1; go_simp) (fun d e hm => by have h1 := make_chans_e n hn (W.at d); simp [go_sem, h1] at hm) ?_
  walk_nrm
  refine t_val (.agg #[.slice (some ⟨W.heap.size, 0, none⟩) n n]) rfl rfl (by k_ne) (fun _ => by go_simp) (fun _ => by simp [go_sem]) ?_
  walk_nrm
  obtain ⟨W2, hW2⟩ : ∃ W2, W2 = (W.alloc (.cells (List.replicate n (Value.chan none)).toArray 121)).alloc (.cells #[.slice (some ⟨W.heap.size, 0, none⟩) n n] 120) := ⟨_, rfl⟩
  have hM : MK W n 0 W2 := by
    rw [hW2]
    exact ⟨by simp only [World.size_alloc], ⟨_, al (al_new rfl _) _, by simp, fun i hi => by omega⟩, al_new (by simp only [World.size_alloc]) _, fun i hi => by omega, ((Below.refl _ W).alloc (Nat.le_refl _) _).alloc (by simp only [World.size_alloc]; omega) _⟩
  have hc := cell_of (i := 0) hM.str rfl
  refine t_mv W2 (.pointer (some ⟨W.heap.size + 1, 0, none⟩)) rfl rfl (by k_ne) (fun d => by rw [hW2]; go_simp; rfl) (fun d e hm => by simp [go_sem] at hm) ?_
  clear hW2
  walk_nrm
  refine t_val (.pointer (some ⟨W.heap.size + 1, 0, none⟩)) rfl rfl (by k_ne) (fun _ => by go_simp) (fun _ => by simp [go_sem]) ?_
  walk_nrm
  refine t_ctl rfl (fun _ => stepG_region_end) ?_
  refine t_ctl rfl (fun _ => stepG_seq) ?_
  refine t_ctl rfl (fun _ => stepG_seq) ?_
  refine t_ctl rfl (fun _ => stepG_region) ?_
  simp only [List.size_toArray, List.length_cons, List.length_nil, Nat.reduceAdd, Nat.zero_add, List.range, List.range.loop]
  refine t_val (.pointer (some ⟨W.heap.size + 1, 0, none⟩)) rfl rfl (by k_ne) (fun _ => by go_simp) (fun _ => by simp [go_sem]) ?_
  walk_nrm
  refine t_val (.pointer (some ⟨W.heap.size + 1, 0, none⟩)) rfl rfl (by k_ne) (fun _ => by go_simp) (fun _ => by simp [go_sem]) ?_
  walk_nrm
  refine t_val (.pointer (some ⟨W.heap.size + 1, 0, none⟩)) rfl rfl (by k_ne) (fun _ => by go_simp) (fun _ => by simp [go_sem]) ?_
  walk_nrm
  refine t_mv (W2) (.slice (some ⟨W.heap.size, 0, none⟩) n n) rfl rfl (by k_ne) (fun d => by have hc := hc; go_simp) (fun d e hm => by have hc := hc; simp [go_sem, hc] at hm; subst hm; exact evL_cell _ _ (hns _ (.inr rfl)) ((show W.heap.size + 1 < B from by omega))) ?_
  walk_nrm
  refine t_val (.int .i64 n) rfl rfl (by k_ne) (fun _ => by go_simp) (fun _ => by simp [go_sem]) ?_
  walk_nrm
  refine t_val (.int .i64 0) rfl rfl (by k_ne) (fun _ => by go_simp) (fun _ => by simp [go_sem]) ?_
  walk_nrm
  refine t_ctl rfl (fun _ => stepG_region_end) ?_
  refine t_ctl rfl (fun _ => stepG_block) ?_
  refine t_ctl rfl (fun _ => stepG_loop) ?_
  refine hl _ _ (fun j4 j5 j6 j7 j8 j9 j10 j11 j12 j13 j14 j15 j16 j17 j18 j21 j22 j23 j24 j25 j26 j27 j28 j29 j30 j31 W' hM' => ?_) n 0 (by omega) _ _ _ _ _ _ _ _ _ _ _ _ _ _ _ _ _ _ _ _ _ _ _ _ _ _ W2 hM
  have hg := hg W' hM'
  simp only [E18, LB18, body18, Try.f18, Option.getD_some]
  refine t_ctl rfl (fun _ => stepG_seq) ?_
  refine t_ctl rfl (fun _ => stepG_region) ?_
  simp only [List.size_toArray, List.length_cons, List.length_nil, Nat.reduceAdd, Nat.zero_add, List.range, List.range.loop]
  refine t_val (.pointer (some ⟨W.heap.size + 1, 0, none⟩)) rfl rfl (by k_ne) (fun _ => by go_simp) (fun _ => by simp [go_sem]) ?_
  walk_nrm
  refine t_val (.pointer (some ⟨W.heap.size + 1, 0, none⟩)) rfl rfl (by k_ne) (fun _ => by go_simp) (fun _ => by simp [go_sem]) ?_
  walk_nrm
  refine t_ctl rfl (fun _ => stepG_region_end) ?_
  refine t_ctl rfl (fun _ => stepG_ret') ?_
  refine t_leave1 rfl rfl Try.func18 rfl ?_
  rw [ho]
  exact hg

set_option maxRecDepth 100000 in
theorem c_new_bad {W : World} {n : Int} (h : n < 1 ∨ 32766 < n) : Gives Fin Sh B 18 #[.int .i64 n] W (.pointer none) W := by
  intro b a k cs ops i rest o ats xs ho hw hk hop hx hg
  refine t_call ho hw hk hop Try.func18 nm18 rfl ?_
  rw [hx]
  walk_nrmf Try.f18
  by_cases h1 : n < 1
  · have d1 : decide (n < 1) = true := decide_eq_true h1
    refine t_ctl rfl (fun _ => stepG_seq) ?_
    refine t_ctl rfl (fun _ => stepG_region) ?_
    simp only [List.size_toArray, List.length_cons, List.length_nil, Nat.reduceAdd, Nat.zero_add, List.range, List.range.loop]
    refine t_val (.pointer none) rfl rfl (by k_ne) (fun _ => by go_simp) (fun _ => by simp [go_sem]) ?_
    walk_nrm
    refine t_ctl rfl (fun _ => stepG_region_end) ?_
    refine t_ctl rfl (fun _ => stepG_seq) ?_
    refine t_ctl rfl (fun _ => stepG_seq) ?_
    refine t_ctl rfl (fun _ => stepG_region) ?_
    simp only [List.size_toArray, List.length_cons, List.length_nil, Nat.reduceAdd, Nat.zero_add, List.range, List.range.loop]
    refine t_val (.int .i64 n) rfl rfl (by k_ne) (fun _ => by go_simp) (fun _ => by simp [go_sem]) ?_
    walk_nrm
    refine t_val (.bool true) rfl rfl (by k_ne) (fun _ => by go_simp) (fun _ => by simp [go_sem, *]) ?_
    walk_nrm
    refine t_val (.bool true) rfl rfl (by k_ne) (fun _ => by go_simp) (fun _ => by simp [go_sem, *]) ?_
    walk_nrm
    refine t_ctl rfl (fun _ => stepG_unwanted rfl rfl) ?_
    walk_nrm
    refine t_ctl rfl (fun _ => stepG_unwanted rfl rfl) ?_
    walk_nrm
    refine t_val (.bool true) rfl rfl (by k_ne) (fun _ => by go_simp) (fun _ => by simp [go_sem, *]) ?_
    walk_nrm
    refine t_ctl rfl (fun _ => stepG_region_end) ?_
    refine t_ctl rfl (fun _ => stepG_cond (t := true) rfl) ?_
    simp only [if_true]
    refine t_ctl rfl (fun _ => stepG_seq) ?_
    refine t_ctl rfl (fun _ => stepG_region) ?_
    simp only [List.size_toArray, List.length_cons, List.length_nil, Nat.reduceAdd, Nat.zero_add, List.range, List.range.loop]
    refine t_val (.pointer none) rfl rfl (by k_ne) (fun _ => by go_simp) (fun _ => by simp [go_sem]) ?_
    walk_nrm
    refine t_ctl rfl (fun _ => stepG_region_end) ?_
    refine t_ctl rfl (fun _ => stepG_ret') ?_
    refine t_leave1 rfl rfl Try.func18 rfl ?_
    rw [ho]
    exact hg
  · have d1 : decide (n < 1) = false := decide_eq_false h1
    have d2 : decide (32766 < n) = true := decide_eq_true (by omega)
    refine t_ctl rfl (fun _ => stepG_seq) ?_
    refine t_ctl rfl (fun _ => stepG_region) ?_
    simp only [List.size_toArray, List.length_cons, List.length_nil, Nat.reduceAdd, Nat.zero_add, List.range, List.range.loop]
    refine t_val (.pointer none) rfl rfl (by k_ne) (fun _ => by go_simp) (fun _ => by simp [go_sem]) ?_
    walk_nrm
    refine t_ctl rfl (fun _ => stepG_region_end) ?_
    refine t_ctl rfl (fun _ => stepG_seq) ?_
    refine t_ctl rfl (fun _ => stepG_seq) ?_
    refine t_ctl rfl (fun _ => stepG_region) ?_
    simp only [List.size_toArray, List.length_cons, List.length_nil, Nat.reduceAdd, Nat.zero_add, List.range, List.range.loop]
    refine t_val (.int .i64 n) rfl rfl (by k_ne) (fun _ => by go_simp) (fun _ => by simp [go_sem]) ?_
    walk_nrm
    refine t_val (.bool false) rfl rfl (by k_ne) (fun _ => by go_simp) (fun _ => by simp [go_sem, *]) ?_
    walk_nrm
    refine t_val (.bool false) rfl rfl (by k_ne) (fun _ => by go_simp) (fun _ => by simp [go_sem, *]) ?_
    walk_nrm
    refine t_val (.int .i64 n) rfl rfl (by k_ne) (fun _ => by go_simp) (fun _ => by simp [go_sem]) ?_
    walk_nrm
    refine t_val (.bool true) rfl rfl (by k_ne) (fun _ => by go_simp) (fun _ => by simp [go_sem, *]) ?_
    walk_nrm
    refine t_val (.bool true) rfl rfl (by k_ne) (fun _ => by go_simp) (fun _ => by simp [go_sem, *]) ?_
    walk_nrm
    refine t_ctl rfl (fun _ => stepG_region_end) ?_
    refine t_ctl rfl (fun _ => stepG_cond (t := true) rfl) ?_
    simp only [if_true]
    refine t_ctl rfl (fun _ => stepG_seq) ?_
    refine t_ctl rfl (fun _ => stepG_region) ?_
    simp only [List.size_toArray, List.length_cons, List.length_nil, Nat.reduceAdd, Nat.zero_add, List.range, List.range.loop]
    refine t_val (.pointer none) rfl rfl (by k_ne) (fun _ => by go_simp) (fun _ => by simp [go_sem]) ?_
    walk_nrm
    refine t_ctl rfl (fun _ => stepG_region_end) ?_
    refine t_ctl rfl (fun _ => stepG_ret') ?_
    refine t_leave1 rfl rfl Try.func18 rfl ?_
    rw [ho]
    exact hg
end
end Go.Proofs.Ytejedbknpjffkaa.Rl
