/- THE RELAY: the contract of Relay. (Steps printed by rlwalk.py.) -/
import Derived.Test.YtejedbknpjffkaaRlAc
namespace Go.Proofs.Ytejedbknpjffkaa.Rl
open Go Go.Conc Go.Conc.Lib Go.RowKit Go.ConcR.Gen
open Go.ConcN (WgLive ShN)
open Go.ConcR (WgAt wgBlock)

@[go_sem] theorem events_store_pointer (P : Program) (w : World) (es : Array Event) (a : Addr) (m : Go.Mode) (p : Option Addr) : (store a (.pointer p) m).events P w es = storedEv P w es a (.pointer p) m := events_store P w es a _ m rfl
theorem nm24 : (Try.f24.name == "runtime.NumGoroutine") = false := by kernel_rfl

theorem array36 (T : Array Value) (h : T.size = 36) : ∃ v0 v1 v2 v3 v4 v5 v6 v7 v8 v9 v10 v11 v12 v13 v14 v15 v16 v17 v18 v19 v20 v21 v22 v23 v24 v25 v26 v27 v28 v29 v30 v31 v32 v33 v34 v35 : Value, T = #[v0, v1, v2, v3, v4, v5, v6, v7, v8, v9, v10, v11, v12, v13, v14, v15, v16, v17, v18, v19, v20, v21, v22, v23, v24, v25, v26, v27, v28, v29, v30, v31, v32, v33, v34, v35] := by
  obtain ⟨l⟩ := T
  simp only [List.size_toArray] at h
  rcases l with _ | ⟨v0, l⟩
  · simp at h
  rcases l with _ | ⟨v1, l⟩
  · simp at h
  rcases l with _ | ⟨v2, l⟩
  · simp at h
  rcases l with _ | ⟨v3, l⟩
  · simp at h
  rcases l with _ | ⟨v4, l⟩
  · simp at h
  rcases l with _ | ⟨v5, l⟩
  · simp at h
  rcases l with _ | ⟨v6, l⟩
  · simp at h
  rcases l with _ | ⟨v7, l⟩
  · simp at h
  rcases l with _ | ⟨v8, l⟩
  · simp at h
  rcases l with _ | ⟨v9, l⟩
  · simp at h
  rcases l with _ | ⟨v10, l⟩
  · simp at h
  rcases l with _ | ⟨v11, l⟩
  · simp at h
  rcases l with _ | ⟨v12, l⟩
  · simp at h
  rcases l with _ | ⟨v13, l⟩
  · simp at h
  rcases l with _ | ⟨v14, l⟩
  · simp at h
  rcases l with _ | ⟨v15, l⟩
  · simp at h
  rcases l with _ | ⟨v16, l⟩
  · simp at h
  rcases l with _ | ⟨v17, l⟩
  · simp at h
  rcases l with _ | ⟨v18, l⟩
  · simp at h
  rcases l with _ | ⟨v19, l⟩
  · simp at h
  rcases l with _ | ⟨v20, l⟩
  · simp at h
  rcases l with _ | ⟨v21, l⟩
  · simp at h
  rcases l with _ | ⟨v22, l⟩
  · simp at h
  rcases l with _ | ⟨v23, l⟩
  · simp at h
  rcases l with _ | ⟨v24, l⟩
  · simp at h
  rcases l with _ | ⟨v25, l⟩
  · simp at h
  rcases l with _ | ⟨v26, l⟩
  · simp at h
  rcases l with _ | ⟨v27, l⟩
  · simp at h
  rcases l with _ | ⟨v28, l⟩
  · simp at h
  rcases l with _ | ⟨v29, l⟩
  · simp at h
  rcases l with _ | ⟨v30, l⟩
  · simp at h
  rcases l with _ | ⟨v31, l⟩
  · simp at h
  rcases l with _ | ⟨v32, l⟩
  · simp at h
  rcases l with _ | ⟨v33, l⟩
  · simp at h
  rcases l with _ | ⟨v34, l⟩
  · simp at h
  rcases l with _ | ⟨v35, l⟩
  · simp at h
  rcases l with _ | ⟨x, l⟩
  · exact ⟨v0, v1, v2, v3, v4, v5, v6, v7, v8, v9, v10, v11, v12, v13, v14, v15, v16, v17, v18, v19, v20, v21, v22, v23, v24, v25, v26, v27, v28, v29, v30, v31, v32, v33, v34, v35, rfl⟩
  · simp at h

section
variable {Fin : Machine → Trace → Prop} {Sh : Loc → Prop} {n k B : Nat} {W : World}
  {b : Frame} {a : Act} {kk : List Item} {cs : List Frame} {ops : Array Oper} {i : Nat} {rest : List Nat} {o : Oper} {ats : Array TypeId} {xs : Array Operand}

set_option maxRecDepth 100000 in
set_option maxHeartbeats 4000000 in
theorem c_relay (h1 : 1 ≤ n) (hn : n ≤ 64) (hk1 : k ≤ 1000) (hB : B ≤ W.heap.size + 6 + n) (hSh : ∀ a : Addr, W.heap.size ≤ a.block → ¬ Sh (.cell a))
    (ho : ops[i]? = some o) (hw : Region.wanted o (yielded ops a.tmps) = true) (hk : b.kind ≠ .early) (hop : o.op = .call { callee := .value (.func 24), args := xs, argTypes := ats }) (hx : xs.map a.eval = #[.int .i64 n, .int .i64 k])
    (hg : ∀ W', Below W.heap.size W W' → W'.heap.size = W.heap.size + 7 + n + n → To Try.prog Fin (fun l => Sh l ∨ ShN (W.heap.size + 6 + n) l) (W.heap.size + 7 + n + n) (G (b.at (a.put o.dst (.int .i64 ((n * k : Nat) : Int))) (.inRegion ops rest :: kk)) cs) W') :
    To Try.prog Fin Sh B (G (b.at a (.inRegion ops (i :: rest) :: kk)) cs) W := by
  have hx2 : n * k < 9223372036854775807 := by
    have := Nat.mul_le_mul hn hk1
    omega
  have d1 : decide ((n : Int) < 1) = false := decide_eq_false (by omega)
  have d2 : decide (64 < (n : Int)) = false := decide_eq_false (by omega)
  have d3 : decide ((k : Int) < 0) = false := decide_eq_false (by omega)
  have d4 : decide (1000 < (k : Int)) = false := decide_eq_false (by omega)
  have e1 : ¬ n = 0 := by omega
  have e2 : ¬ 64 < n := by omega
  have e3 : ¬ 1000 < k := by omega
  refine To.up (B' := W.heap.size + 6 + n) ?_ hB
  clear hB
  refine t_call ho hw hk hop Try.func24 nm24 rfl ?_
  rw [hx]
  walk_nrmf Try.f24
  refine t_ctl rfl (fun _ => stepG_seq) ?_
  refine t_ctl rfl (fun _ => stepG_region) ?_
  simp only [List.size_toArray, List.length_cons, List.length_nil, Nat.reduceAdd, Nat.zero_add, List.range, List.range.loop]
  obtain ⟨W₁, hW₁⟩ : ∃ W₁, W₁ = W.alloc (.cells #[.int .i64 n] 3) := ⟨_, rfl⟩
  obtain ⟨W₂, hW₂⟩ : ∃ W₂, W₂ = W₁.alloc (.cells #[.int .i64 k] 3) := ⟨_, rfl⟩
  have s1 : W₁.heap.size = W.heap.size + 1 := by rw [hW₁, World.size_alloc]
  have s2 : W₂.heap.size = W.heap.size + 2 := by rw [hW₂, World.size_alloc, s1]
  have b1 : W₁.heap[W.heap.size]? = some (.cells #[.int .i64 n] 3) := by rw [hW₁]; exact al_new rfl _
  have b2 : W₂.heap[W.heap.size]? = some (.cells #[.int .i64 n] 3) := by rw [hW₂]; exact al b1 _
  have b3 : W₂.heap[W.heap.size + 1]? = some (.cells #[.int .i64 k] 3) := by rw [hW₂]; exact al_new s1.symm _
  have bel2 : Below W.heap.size W W₂ := by
    rw [hW₂, hW₁]
    exact ((Below.refl _ W).alloc (Nat.le_refl _) _).alloc (by rw [World.size_alloc]; omega) _
  have c2 := cell_of (i := 0) b2 rfl
  have c3 := cell_of (i := 0) b3 rfl
  refine t_mv W₁ (.pointer (some ⟨W.heap.size, 0, none⟩)) rfl rfl (by k_ne) (fun d => by rw [hW₁]; go_simp; try rfl) (fun d e hm => by simp [go_sem] at hm) ?_
  walk_nrm
  refine t_mv W₂ (.pointer (some ⟨W.heap.size + 1, 0, none⟩)) rfl rfl (by k_ne) (fun d => by rw [hW₂]; go_simp; try rfl) (fun d e hm => by simp [go_sem] at hm) ?_
  clear hW₁ hW₂ b1
  walk_nrm
  refine t_val (.int .i64 0) rfl rfl (by k_ne) (fun _ => by go_simp) (fun _ => by simp [go_sem]) ?_
  walk_nrm
  refine t_ctl rfl (fun _ => stepG_region_end) ?_
  refine t_ctl rfl (fun _ => stepG_seq) ?_
  refine t_ctl rfl (fun _ => stepG_seq) ?_
  refine t_ctl rfl (fun _ => stepG_region) ?_
  simp only [List.size_toArray, List.length_cons, List.length_nil, Nat.reduceAdd, Nat.zero_add, List.range, List.range.loop]
  refine t_mv (W₂) (.int .i64 n) rfl rfl (by k_ne) (fun d => by have hc := c2; go_simp) (fun d e hm => by have hc := c2; simp [go_sem, hc] at hm; subst hm; exact evL_cell _ _ ((hSh _ (show W.heap.size ≤ W.heap.size from by omega))) ((show W.heap.size < W.heap.size + 6 + n from by omega))) ?_
  walk_nrm
  refine t_val (.bool false) rfl rfl (by k_ne) (fun _ => by go_simp) (fun _ => by simp [go_sem, *]) ?_
  walk_nrm
  refine t_val (.bool false) rfl rfl (by k_ne) (fun _ => by go_simp) (fun _ => by simp [go_sem, *]) ?_
  walk_nrm
  refine t_mv (W₂) (.int .i64 n) rfl rfl (by k_ne) (fun d => by have hc := c2; go_simp) (fun d e hm => by have hc := c2; simp [go_sem, hc] at hm; subst hm; exact evL_cell _ _ ((hSh _ (show W.heap.size ≤ W.heap.size from by omega))) ((show W.heap.size < W.heap.size + 6 + n from by omega))) ?_
  walk_nrm
  refine t_val (.bool false) rfl rfl (by k_ne) (fun _ => by go_simp) (fun _ => by simp [go_sem, *]) ?_
  walk_nrm
  refine t_val (.bool false) rfl rfl (by k_ne) (fun _ => by go_simp) (fun _ => by simp [go_sem, *]) ?_
  walk_nrm
  refine t_val (.bool false) rfl rfl (by k_ne) (fun _ => by go_simp) (fun _ => by simp [go_sem, *]) ?_
  walk_nrm
  refine t_mv (W₂) (.int .i64 k) rfl rfl (by k_ne) (fun d => by have hc := c3; go_simp) (fun d e hm => by have hc := c3; simp [go_sem, hc] at hm; subst hm; exact evL_cell _ _ ((hSh _ (show W.heap.size ≤ W.heap.size + 1 from by omega))) ((show W.heap.size + 1 < W.heap.size + 6 + n from by omega))) ?_
  walk_nrm
  refine t_val (.bool false) rfl rfl (by k_ne) (fun _ => by go_simp) (fun _ => by simp [go_sem, *]) ?_
  walk_nrm
  refine t_val (.bool false) rfl rfl (by k_ne) (fun _ => by go_simp) (fun _ => by simp [go_sem, *]) ?_
  walk_nrm
  refine t_val (.bool false) rfl rfl (by k_ne) (fun _ => by go_simp) (fun _ => by simp [go_sem, *]) ?_
  walk_nrm
  refine t_mv (W₂) (.int .i64 k) rfl rfl (by k_ne) (fun d => by have hc := c3; go_simp) (fun d e hm => by have hc := c3; simp [go_sem, hc] at hm; subst hm; exact evL_cell _ _ ((hSh _ (show W.heap.size ≤ W.heap.size + 1 from by omega))) ((show W.heap.size + 1 < W.heap.size + 6 + n from by omega))) ?_
  walk_nrm
  refine t_val (.bool false) rfl rfl (by k_ne) (fun _ => by go_simp) (fun _ => by simp [go_sem, *]) ?_
  walk_nrm
  refine t_val (.bool false) rfl rfl (by k_ne) (fun _ => by go_simp) (fun _ => by simp [go_sem, *]) ?_
  walk_nrm
  refine t_ctl rfl (fun _ => stepG_region_end) ?_
  refine t_ctl rfl (fun _ => stepG_cond (t := false) rfl) ?_
  simp only [if_false, Bool.false_eq_true, ↓reduceIte]
  refine t_ctl rfl (fun _ => stepG_skip) ?_
  refine t_ctl rfl (fun _ => stepG_seq) ?_
  refine t_ctl rfl (fun _ => stepG_region) ?_
  simp only [List.size_toArray, List.length_cons, List.length_nil, Nat.reduceAdd, Nat.zero_add, List.range, List.range.loop]
  refine t_mv (W₂) (.int .i64 n) rfl rfl (by k_ne) (fun d => by have hc := c2; go_simp) (fun d e hm => by have hc := c2; simp [go_sem, hc] at hm; subst hm; exact evL_cell _ _ ((hSh _ (show W.heap.size ≤ W.heap.size from by omega))) ((show W.heap.size < W.heap.size + 6 + n from by omega))) ?_
  walk_nrm
  refine c_new (W := W₂) (n := n) h1 (by omega) (by omega) (fun a ha => hSh a (by omega)) rfl rfl (by k_ne) rfl (by simp [Act.eval]) ?_
  intro W₃ hMK
  have s3 : W₃.heap.size = W.heap.size + 4 + n := by rw [hMK.size, s2]
  have hptr : W₂.heap.size + 1 = W.heap.size + 3 := by omega
  rw [hptr]
  obtain ⟨W₄, hW₄⟩ : ∃ W₄, W₄ = W₃.alloc (.cells #[.pointer none] 44) := ⟨_, rfl⟩
  have s4 : W₄.heap.size = W.heap.size + 5 + n := by rw [hW₄, World.size_alloc, s3]; omega
  have b4 : W₄.heap[W.heap.size + 4 + n]? = some (.cells #[.pointer none] 44) := by rw [hW₄]; exact al_new s3.symm _
  have L4 : Below (W.heap.size + 4 + n) W₃ W₄ := by rw [hW₄]; exact (Below.refl _ _).alloc (by omega) _
  walk_nrm
  refine t_mv W₄ (.pointer (some ⟨W.heap.size + 4 + n, 0, none⟩)) rfl rfl (by k_ne) (fun d => by rw [hW₄]; go_simp; try rfl) (fun d e hm => by simp [go_sem] at hm) ?_
  clear hW₄
  walk_nrm
  obtain ⟨W₅, hW₅⟩ : ∃ W₅, W₅ = W₄.setCell ⟨W.heap.size + 4 + n, 0, none⟩ (.pointer (some ⟨W.heap.size + 3, 0, none⟩)) := ⟨_, rfl⟩
  have s5 : W₅.heap.size = W.heap.size + 5 + n := by rw [hW₅, (aside_setCell _ _ _).size, s4]
  have b5 : W₅.heap[W.heap.size + 4 + n]? = some (.cells #[.pointer (some ⟨W.heap.size + 3, 0, none⟩)] 44) := by rw [hW₅, st_same b4]; simp
  have L5 : Below (W.heap.size + 4 + n) W₃ W₅ := by rw [hW₅]; exact L4.setCell (Nat.le_refl _) _
  refine t_st W₅ rfl rfl (by k_ne) (fun d => by have hc := cell_of (i := 0) b4 rfl; have hz := fz_of (i := 0) b4; rw [hW₅, ← at_setCell]; go_simp) (fun d e hm => by have hc := cell_of (i := 0) b4 rfl; have hz := fz_of (i := 0) b4; simp [go_sem, storedEv, hc, hz] at hm; subst hm; exact evL_cell _ _ (hSh _ (show W.heap.size ≤ W.heap.size + 4 + n by omega)) (show W.heap.size + 4 + n < W.heap.size + 6 + n by omega)) ?_
  clear hW₅ b4 L4
  walk_nrm
  refine t_ctl rfl (fun _ => stepG_region_end) ?_
  refine t_ctl rfl (fun _ => stepG_seq) ?_
  refine t_ctl rfl (fun _ => stepG_region) ?_
  simp only [List.size_toArray, List.length_cons, List.length_nil, Nat.reduceAdd, Nat.zero_add, List.range, List.range.loop]
  obtain ⟨W₆, hW₆⟩ : ∃ W₆, W₆ = W₅.alloc (.cells #[.int .i64 0] 3) := ⟨_, rfl⟩
  have s6 : W₆.heap.size = W.heap.size + 6 + n := by rw [hW₆, World.size_alloc, s5]; omega
  have b6 : W₆.heap[W.heap.size + 5 + n]? = some (.cells #[.int .i64 0] 3) := by rw [hW₆]; exact al_new (by omega) _
  have L6 : Below (W.heap.size + 5 + n) W₅ W₆ := by rw [hW₆]; exact (Below.refl _ _).alloc (by omega) _
  refine t_mv W₆ (.pointer (some ⟨W.heap.size + 5 + n, 0, none⟩)) rfl rfl (by k_ne) (fun d => by rw [hW₆]; go_simp; try rfl) (fun d e hm => by simp [go_sem] at hm) ?_
  clear hW₆
  walk_nrm
  obtain ⟨W₇, hW₇⟩ : ∃ W₇, W₇ = W₆.setCell ⟨W.heap.size + 5 + n, 0, none⟩ (.int .i64 0) := ⟨_, rfl⟩
  have s7 : W₇.heap.size = W.heap.size + 6 + n := by rw [hW₇, (aside_setCell _ _ _).size, s6]
  have b7 : W₇.heap[W.heap.size + 5 + n]? = some (.cells #[.int .i64 0] 3) := by rw [hW₇, st_same b6]; simp
  have L7 : Below (W.heap.size + 5 + n) W₅ W₇ := by rw [hW₇]; exact L6.setCell (Nat.le_refl _) _
  refine t_st W₇ rfl rfl (by k_ne) (fun d => by have hc := cell_of (i := 0) b6 rfl; have hz := fz_of (i := 0) b6; rw [hW₇, ← at_setCell]; go_simp) (fun d e hm => by have hc := cell_of (i := 0) b6 rfl; have hz := fz_of (i := 0) b6; simp [go_sem, storedEv, hc, hz] at hm; subst hm; exact evL_cell _ _ (hSh _ (show W.heap.size ≤ W.heap.size + 5 + n by omega)) (show W.heap.size + 5 + n < W.heap.size + 6 + n by omega)) ?_
  clear hW₇ b6 L6
  walk_nrm
  refine t_ctl rfl (fun _ => stepG_region_end) ?_
  refine t_ctl rfl (fun _ => stepG_seq) ?_
  refine t_ctl rfl (fun _ => stepG_region) ?_
  simp only [List.size_toArray, List.length_cons, List.length_nil, Nat.reduceAdd, Nat.zero_add, List.range, List.range.loop]
  obtain ⟨W₈, hW₈⟩ : ∃ W₈, W₈ = W₇.alloc (wgBlock 127 0 0) := ⟨_, rfl⟩
  have s8 : W₈.heap.size = W.heap.size + 7 + n + 0 := by rw [hW₈, World.size_alloc, s7]; omega
  have b8 : W₈.heap[W.heap.size + 6 + n]? = some (wgBlock 127 0 0) := by rw [hW₈]; exact al_new s7.symm _
  have L8 : Below (W.heap.size + 6 + n) W₇ W₈ := by rw [hW₈]; exact (Below.refl _ _).alloc (by omega) _
  refine t_mv W₈ (.pointer (some ⟨W.heap.size + 6 + n, 0, none⟩)) rfl rfl (by k_ne) (fun d => by rw [hW₈]; go_simp; try rfl) (fun d e hm => by simp [go_sem] at hm) ?_
  clear hW₈
  walk_nrm
  -- what is known
  have L5' : Below (W.heap.size + 4 + n) W₃ W₈ := (L5.trans (L7.mono (by omega))).trans (L8.mono (by omega))
  have L57 : Below (W.heap.size + 5 + n) W₅ W₈ := L7.trans (L8.mono (by omega))
  have hM : MF W W.heap.size n k 0 0 W₈ := by
    obtain ⟨C, hC, _, hCc⟩ := hMK.arr
    have hbel := hMK.below
    rw [s2] at hC hCc hbel
    have hstr := hMK.str
    rw [s2] at hstr
    refine ⟨?_, ?_, fun i hi => ?_, ?_, ?_, fun t ht => by omega, s8, bel2.trans ((hbel.mono (by omega)).trans (L5'.mono (by omega)))⟩
    · rw [L5'.cell (by simp only []; omega), hbel.cell (by simp only []; omega)]; exact c2
    · rw [L5'.cell (by simp only []; omega), hbel.cell (by simp only []; omega)]; exact c3
    · rw [L5'.cell (by simp only []; omega)]
      exact (cell_of hC (hCc i hi)).trans (by congr 4)
    · rw [L5'.cell (by simp only []; omega)]; exact cell_of hstr rfl
    · rw [L57.cell (by simp only []; omega)]; exact cell_of b5 rfl
  have hch : ∀ i, i < n → W₈.heap[W.heap.size + 4 + i]? = some (.chan 1 #[] false 0 0 false) := fun i hi => by
    have := hMK.chan i hi
    rw [s2] at this
    rw [L5'.block _ (by omega)]
    exact this
  have hsm : W₈.heap[W.heap.size + 5 + n]? = some (.cells #[.int .i64 0] 3) := by rw [L8.block _ (by omega)]; exact b7
  have cN := hM.thr
  clear L5' L57 L5 L7 L8 hMK b5 b7 s3 s4 s5 s6 s7 s2 b2 b3 c2 c3 hptr bel2
  refine t_ctl rfl (fun _ => stepG_region_end) ?_
  refine t_ctl rfl (fun _ => stepG_seq) ?_
  refine t_ctl rfl (fun _ => stepG_seq) ?_
  refine t_ctl rfl (fun _ => stepG_region) ?_
  simp only [List.size_toArray, List.length_cons, List.length_nil, Nat.reduceAdd, Nat.zero_add, List.range, List.range.loop]
  refine t_mv (W₈) (.int .i64 n) rfl rfl (by k_ne) (fun d => by have hc := cN; go_simp) (fun d e hm => by have hc := cN; simp [go_sem, hc] at hm; subst hm; exact evL_cell _ _ ((hSh _ (show W.heap.size ≤ W.heap.size from by omega))) ((show W.heap.size < W.heap.size + 6 + n from by omega))) ?_
  walk_nrm
  refine t_val (.int .i64 0) rfl rfl (by k_ne) (fun _ => by go_simp) (fun _ => by simp [go_sem]) ?_
  walk_nrm
  refine t_ctl rfl (fun _ => stepG_region_end) ?_
  refine t_ctl rfl (fun _ => stepG_block) ?_
  refine t_ctl rfl (fun _ => stepG_loop) ?_
  refine to_relay (cs := b.at a (.inRegion ops (i :: rest) :: kk) :: cs) (N := W.heap.size) (n := n) (k := k) h1 (by omega) hx2 hSh (Nat.le_refl _) hM b8 hch hsm (fun m0 hm0 w hw => ?_) ?_
  · have := spawns (cs := b.at a (.inRegion ops (i :: rest) :: kk) :: cs) hm0 h1 (by omega) (by omega) hx2 (Nat.le_refl _) hSh n 0 (by omega) (.int .i64 n) (.int .i64 k) undef (.int .i64 n) (.bool false) (.bool false) (.int .i64 n) (.bool false) (.bool false) (.bool false) (.int .i64 k) (.bool false) (.bool false) (.bool false) (.int .i64 k) (.bool false) (.bool false) (.int .i64 n) (.pointer (some ⟨W.heap.size + 3, 0, none⟩)) undef undef undef undef undef undef undef undef undef w hw
    simp only [L24, E24, X24, body24, Try.f24, Option.getD_some] at this
    exact this
  · intro T W' hT hT6 hM' hs'
    obtain ⟨v0, v1, v2, v3, v4, v5, v6, v7, v8, v9, v10, v11, v12, v13, v14, v15, v16, v17, v18, v19, v20, v21, v22, v23, v24, v25, v26, v27, v28, v29, v30, v31, v32, v33, v34, v35, rfl⟩ := array36 T hT
    simp only [List.getElem?_toArray, List.getElem?_cons_succ, List.getElem?_cons_zero, Option.some.injEq] at hT6
    subst hT6
    obtain ⟨Ty, hs'⟩ := hs'
    have cS := cell_of (i := 0) hs' rfl
    have hns : ¬ (fun l => Sh l ∨ ShN (W.heap.size + 6 + n) l) (.cell ⟨W.heap.size + 5 + n, 0, none⟩) := by
      rintro (h | ⟨a, e, hb⟩)
      · exact hSh ⟨W.heap.size + 5 + n, 0, none⟩ (show W.heap.size ≤ W.heap.size + 5 + n by omega) h
      · cases e
        simp only [] at hb
        omega
    have hg := hg W' hM'.bel hM'.size
    simp only [acq24, O13, E14, E24, X24, body24, Try.f24, Option.getD_some]
    walk_nrm
    refine t_ctl rfl (fun _ => stepG_region_end) ?_
    refine t_ctl rfl (fun _ => stepG_seq) ?_
    refine t_ctl rfl (fun _ => stepG_region) ?_
    simp only [List.size_toArray, List.length_cons, List.length_nil, Nat.reduceAdd, Nat.zero_add, List.range, List.range.loop]
    refine t_mv (W') (.int .i64 ((n * k : Nat) : Int)) rfl rfl (by k_ne) (fun d => by have hc := cS; go_simp) (fun d e hm => by have hc := cS; simp [go_sem, hc] at hm; subst hm; exact evL_cell _ _ (hns) ((show W.heap.size + 5 + n < W.heap.size + 7 + n + n from by omega))) ?_
    walk_nrm
    refine t_val (.int .i64 ((n * k : Nat) : Int)) rfl rfl (by k_ne) (fun _ => by go_simp) (fun _ => by simp [go_sem]) ?_
    walk_nrm
    refine t_ctl rfl (fun _ => stepG_region_end) ?_
    refine t_ctl rfl (fun _ => stepG_ret') ?_
    refine t_leave1 rfl rfl Try.func24 rfl ?_
    rw [ho]
    exact hg
end
end Go.Proofs.Ytejedbknpjffkaa.Rl
