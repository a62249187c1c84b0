/- permit.New beside leavers. (Steps printed by rlo.py and rlwalk.py.) -/
import Derived.Test.YtejedbknpjffkaaRlJ
import Derived.Conc.AppendWalk
namespace Go.Proofs.Ytejedbknpjffkaa.Rl
open Go Go.Conc Go.RowKit Go.ConcR.Gen

theorem nm18 : (Try.f18.name == "runtime.NumGoroutine") = false := by kernel_rfl
theorem info121 : (Try.prog.info? 121).map (fun i => (i.zero, i.size, i.bytes)) = some (some (.chan none), 1, 8) := by kernel_rfl
theorem bytes107 : ∃ i, Try.prog.info? 107 = some i ∧ i.bytes = 0 := by
  have h : (Try.prog.info? 107).map (·.bytes) = some 0 := by kernel_rfl
  obtain ⟨i, hi, hb⟩ := Option.map_eq_some_iff.1 h
  exact ⟨i, hi, hb⟩
theorem make_chan (w : World) : (Instr.makeChan 121 (.int .i64 1)).run Try.prog w = .ok (.chan (some w.heap.size)) (w.alloc (.chan 1 #[] false 0 0 false)) := by
  obtain ⟨i, hi, hb⟩ := bytes107
  simpa using run_makeChan (P := Try.prog) (w := w) Try.underlying121 hi .i64 1 (by omega) (by rw [hb]; omega)
theorem make_chan_e (w : World) (es : Array Event) : (Instr.makeChan 121 (.int .i64 1)).events Try.prog w es = es := by
  obtain ⟨i, hi, hb⟩ := bytes107
  simpa using events_makeChan (P := Try.prog) (w := w) Try.underlying121 hi .i64 1 (by omega) (by rw [hb]; omega) es
theorem make_chans (n : Nat) (hn : n ≤ 32766) (w : World) : (Instr.makeSlice 118 (.int .i64 n) (.int .i64 n)).run Try.prog w = .ok (.slice (some ⟨w.heap.size, 0, none⟩) n n) (w.alloc (.cells (List.replicate n (Value.chan none)).toArray 121)) := by
  obtain ⟨i0, hi, hz0, hz1, hz2⟩ := info_parts info121
  have := run_make (P := Try.prog) w 118 121 i0 (.chan none) Try.underlying118 hi hz0 .i64 .i64 n n (by omega) (by omega) (by rw [hz2]; omega) (by omega)
  rw [hz1] at this
  simp only [Int.toNat_natCast] at this
  rw [this]
  have e : madeCells (Value.chan none).cells (n * 1) = (List.replicate n (Value.chan none)).toArray := by
    apply Array.ext
    · simp [madeCells]
    · intro i h1 h2
      simp [madeCells, Value.cells, Nat.mod_one]
  rw [e]
theorem make_chans_e (n : Nat) (hn : n ≤ 32766) (w : World) (es : Array Event) : (Instr.makeSlice 118 (.int .i64 n) (.int .i64 n)).events Try.prog w es = es := by
  obtain ⟨i0, hi, hz0, hz1, hz2⟩ := info_parts info121
  exact events_make (P := Try.prog) w 118 121 i0 (.chan none) Try.underlying118 hi hz0 .i64 .i64 n n (by omega) (by omega) (by rw [hz2]; omega) (by omega) (by rw [hz2]; simp; omega) es

/-- k of n channels are made. -/
structure MK (W0 : World) (n k : Nat) (W : World) : Prop where
  size : W.heap.size = W0.heap.size + 2 + k
  arr : ∃ C, W.heap[W0.heap.size]? = some (.cells C 121) ∧ C.size = n ∧ ∀ i, i < k → C[i]? = some (.chan (some (W0.heap.size + 2 + i)))
  str : W.heap[W0.heap.size + 1]? = some (.cells #[.slice (some ⟨W0.heap.size, 0, none⟩) n n] 120)
  chan : ∀ i, i < k → W.heap[W0.heap.size + 2 + i]? = some (.chan 1 #[] false 0 0 false)
  below : Below W0.heap.size W0 W

theorem MK.next {W0 W : World} {n k : Nat} (h : MK W0 n k W) (hk : k < n) : MK W0 n (k + 1) ((W.alloc (.chan 1 #[] false 0 0 false)).setCell ⟨W0.heap.size, k, none⟩ (.chan (some (W0.heap.size + 2 + k)))) := by
  obtain ⟨C, hC, hs, hc⟩ := h.arr
  have hsz := h.size
  have hA : (W.alloc (.chan 1 #[] false 0 0 false)).heap[W0.heap.size]? = some (.cells C 121) := al hC _
  refine ⟨by rw [(aside_setCell _ _ _).size, World.size_alloc, hsz]; omega, ⟨C.setIfInBounds k (.chan (some (W0.heap.size + 2 + k))), st_same hA _, by simp [hs], fun i hi => ?_⟩, ?_, fun i hi => ?_, (h.below.alloc (by omega) _).setCell (Nat.le_refl _) _⟩
  · by_cases e : i = k
    · subst e
      rw [Array.getElem?_setIfInBounds_self_of_lt (by omega)]
    · rw [Array.getElem?_setIfInBounds_ne (by omega)]
      exact hc i (by omega)
  · exact st_other (al h.str _) (by omega) _
  · by_cases e : i = k
    · subst e
      exact st_other (al_new (by omega) _) (by omega) _
    · exact st_other (al (h.chan i (by omega)) _) (by omega) _

noncomputable def body18 : Code := Try.f18.body.getD .skip
/-- the loop and what stands behind it -/
noncomputable def LB18 : Code := match body18 with | .seq _ (.seq _ (.seq _ c)) => c | _ => .skip
noncomputable def L18 : Code := match LB18 with | .seq (.seq _ (.block _ (.loop c))) _ => c | _ => .skip
noncomputable def E18 : Code := match LB18 with | .seq _ c => c | _ => .skip
noncomputable def blk18 : Code := match L18 with | .seq _ (.seq _ (.seq (.block _ c) _)) => c | _ => .skip
noncomputable def R8 : Code := match L18 with | .seq _ (.seq _ (.seq _ c)) => c | _ => .skip
noncomputable def O7 : Array Oper := match blk18 with | .seq _ (.region _ o _) => o | _ => #[]

section
variable {Fin : Machine → Trace → Prop} {Sh : Loc → Prop} {B N n k : Nat} {W W₂ : World} {cs : List Frame} {j1 : Value}

set_option maxRecDepth 100000 in
set_option maxHeartbeats 4000000 in
/-- The drawn region, whatever the tape says. -/
theorem new_drawn (j5 j6 j7 j8 j9 j10 j11 j12 j13 j14 j15 j16 j17 j18 j21 j22 j23 j24 j25 j26 j27 j28 j29 j30 j31 : Value) (hk : k < n) (hc : W.cell? ⟨N + 1, 0, none⟩ = some (.slice (some ⟨N, 0, none⟩) n n)) (hcA : (W.alloc (.chan 1 #[] false 0 0 false)).cell? ⟨N + 1, 0, none⟩ = some (.slice (some ⟨N, 0, none⟩) n n)) (hsz : W.heap.size = N + 2 + k)
    (hv : ∃ v, (W.alloc (.chan 1 #[] false 0 0 false)).cell? ⟨N, k, none⟩ = some v) (hz : (W.alloc (.chan 1 #[] false 0 0 false)).frozen? ⟨N, k, none⟩ = false)
    (hW : W₂ = (W.alloc (.chan 1 #[] false 0 0 false)).setCell ⟨N, k, none⟩ (.chan (some (N + 2 + k)))) (hns : ∀ a : Addr, a.block = N ∨ a.block = N + 1 → ¬ Sh (.cell a)) (hB : N + 2 ≤ B)
    (hg : To Try.prog Fin Sh B (G ((base 18).at ⟨#[.int .i64 n, j1, .pointer none, .pointer (some ⟨N + 1, 0, none⟩), .int .i64 k, j5, j6, j7, j8, j9, j10, j11, j12, j13, j14, j15, j16, j17, j18, .int .i64 n, .int .i64 k, j21, j22, .pointer (some ⟨N + 1, 0, none⟩), .pointer (some ⟨N + 1, 0, none⟩), .pointer (some ⟨N + 1, 0, none⟩), .slice (some ⟨N, 0, none⟩) n n, .int .i64 k, .chan (some (N + 2 + k)), .pointer (some ⟨N, k, none⟩), j30, j31], []⟩ (.inRegion O7 [] :: [.inBlock 1, .code R8, .inLoop L18, .inBlock 0, .code E18])) cs) W₂) (q : Nat) : To Try.prog Fin Sh B (G ((base 18).at ⟨#[.int .i64 n, j1, .pointer none, .pointer (some ⟨N + 1, 0, none⟩), .int .i64 k, j5, j6, j7, j8, j9, j10, j11, j12, j13, j14, j15, j16, j17, j18, .int .i64 n, .int .i64 k, j21, j22, j23, j24, j25, j26, j27, j28, j29, j30, j31], []⟩ (.inRegion O7 (Region.linearise.go .any O7 8 q #[false, false, false, false, false, false, false, false] []) :: [.inBlock 1, .code R8, .inLoop L18, .inBlock 0, .code E18])) cs) W := by
  have q1 : decide ((k : Int) < (n : Int)) = true := decide_eq_true (by omega)
  obtain ⟨v0, hv⟩ := hv
  have S01234567 : ∀ (q : Nat), To Try.prog Fin Sh B (G ((base 18).at ⟨#[.int .i64 n, j1, .pointer none, .pointer (some ⟨N + 1, 0, none⟩), .int .i64 k, j5, j6, j7, j8, j9, j10, j11, j12, j13, j14, j15, j16, j17, j18, .int .i64 n, .int .i64 k, j21, j22, .pointer (some ⟨N + 1, 0, none⟩), .pointer (some ⟨N + 1, 0, none⟩), .pointer (some ⟨N + 1, 0, none⟩), .slice (some ⟨N, 0, none⟩) n n, .int .i64 k, .chan (some (N + 2 + k)), .pointer (some ⟨N, k, none⟩), j30, j31], []⟩ (.inRegion O7 (Region.linearise.go .any O7 0 q #[true, true, true, true, true, true, true, true] []) :: [.inBlock 1, .code R8, .inLoop L18, .inBlock 0, .code E18])) cs) W₂ := by
    intro q
    exact hg
  have S0123456 : ∀ (q : Nat), To Try.prog Fin Sh B (G ((base 18).at ⟨#[.int .i64 n, j1, .pointer none, .pointer (some ⟨N + 1, 0, none⟩), .int .i64 k, j5, j6, j7, j8, j9, j10, j11, j12, j13, j14, j15, j16, j17, j18, .int .i64 n, .int .i64 k, j21, j22, .pointer (some ⟨N + 1, 0, none⟩), .pointer (some ⟨N + 1, 0, none⟩), .pointer (some ⟨N + 1, 0, none⟩), .slice (some ⟨N, 0, none⟩) n n, .int .i64 k, .chan (some (N + 2 + k)), .pointer (some ⟨N, k, none⟩), j30, j31], []⟩ (.inRegion O7 (Region.linearise.go .any O7 1 q #[true, true, true, true, true, true, true, false] []) :: [.inBlock 1, .code R8, .inLoop L18, .inBlock 0, .code E18])) cs) (W.alloc (.chan 1 #[] false 0 0 false)) := by
    intro q
    refine any_step (X := fun l => To Try.prog Fin Sh B (G ((base 18).at ⟨#[.int .i64 n, j1, .pointer none, .pointer (some ⟨N + 1, 0, none⟩), .int .i64 k, j5, j6, j7, j8, j9, j10, j11, j12, j13, j14, j15, j16, j17, j18, .int .i64 n, .int .i64 k, j21, j22, .pointer (some ⟨N + 1, 0, none⟩), .pointer (some ⟨N + 1, 0, none⟩), .pointer (some ⟨N + 1, 0, none⟩), .slice (some ⟨N, 0, none⟩) n n, .int .i64 k, .chan (some (N + 2 + k)), .pointer (some ⟨N, k, none⟩), j30, j31], []⟩ (.inRegion O7 l :: [.inBlock 1, .code R8, .inLoop L18, .inBlock 0, .code E18])) cs) (W.alloc (.chan 1 #[] false 0 0 false))) (rs := [7]) (by kernel_rfl) (by decide) (fun i hi q => ?_) q
    simp only [List.mem_cons, List.not_mem_nil, or_false] at hi
    subst hi
    · simp only [O7, blk18, L18, LB18, body18, Try.f18, Option.getD_some]
      refine t_st W₂ rfl rfl (by k_ne) (fun d => by rw [hW, ← at_setCell]; go_simp) (fun d e hm => by simp [go_sem, storedEv, hv, hz] at hm; subst hm; exact evL_cell _ _ (hns _ (.inl rfl)) (show N < B by omega)) ?_
      walk_nrm
      exact S01234567 q
  have S012345 : ∀ (q : Nat), To Try.prog Fin Sh B (G ((base 18).at ⟨#[.int .i64 n, j1, .pointer none, .pointer (some ⟨N + 1, 0, none⟩), .int .i64 k, j5, j6, j7, j8, j9, j10, j11, j12, j13, j14, j15, j16, j17, j18, .int .i64 n, .int .i64 k, j21, j22, .pointer (some ⟨N + 1, 0, none⟩), .pointer (some ⟨N + 1, 0, none⟩), .pointer (some ⟨N + 1, 0, none⟩), .slice (some ⟨N, 0, none⟩) n n, .int .i64 k, .chan (some (N + 2 + k)), j29, j30, j31], []⟩ (.inRegion O7 (Region.linearise.go .any O7 2 q #[true, true, true, true, true, true, false, false] []) :: [.inBlock 1, .code R8, .inLoop L18, .inBlock 0, .code E18])) cs) (W.alloc (.chan 1 #[] false 0 0 false)) := by
    intro q
    refine any_step (X := fun l => To Try.prog Fin Sh B (G ((base 18).at ⟨#[.int .i64 n, j1, .pointer none, .pointer (some ⟨N + 1, 0, none⟩), .int .i64 k, j5, j6, j7, j8, j9, j10, j11, j12, j13, j14, j15, j16, j17, j18, .int .i64 n, .int .i64 k, j21, j22, .pointer (some ⟨N + 1, 0, none⟩), .pointer (some ⟨N + 1, 0, none⟩), .pointer (some ⟨N + 1, 0, none⟩), .slice (some ⟨N, 0, none⟩) n n, .int .i64 k, .chan (some (N + 2 + k)), j29, j30, j31], []⟩ (.inRegion O7 l :: [.inBlock 1, .code R8, .inLoop L18, .inBlock 0, .code E18])) cs) (W.alloc (.chan 1 #[] false 0 0 false))) (rs := [6]) (by kernel_rfl) (by decide) (fun i hi q => ?_) q
    simp only [List.mem_cons, List.not_mem_nil, or_false] at hi
    subst hi
    · simp only [O7, blk18, L18, LB18, body18, Try.f18, Option.getD_some]
      refine t_val (.pointer (some ⟨N, k, none⟩)) rfl rfl (by k_ne) (fun _ => by go_simp) (fun _ => by simp [go_sem, *]) ?_
      walk_nrm
      exact S0123456 q
  have S01234 : ∀ (q : Nat), To Try.prog Fin Sh B (G ((base 18).at ⟨#[.int .i64 n, j1, .pointer none, .pointer (some ⟨N + 1, 0, none⟩), .int .i64 k, j5, j6, j7, j8, j9, j10, j11, j12, j13, j14, j15, j16, j17, j18, .int .i64 n, .int .i64 k, j21, j22, .pointer (some ⟨N + 1, 0, none⟩), .pointer (some ⟨N + 1, 0, none⟩), .pointer (some ⟨N + 1, 0, none⟩), .slice (some ⟨N, 0, none⟩) n n, .int .i64 k, j28, j29, j30, j31], []⟩ (.inRegion O7 (Region.linearise.go .any O7 3 q #[true, true, true, true, true, false, false, false] []) :: [.inBlock 1, .code R8, .inLoop L18, .inBlock 0, .code E18])) cs) W := by
    intro q
    refine any_step (X := fun l => To Try.prog Fin Sh B (G ((base 18).at ⟨#[.int .i64 n, j1, .pointer none, .pointer (some ⟨N + 1, 0, none⟩), .int .i64 k, j5, j6, j7, j8, j9, j10, j11, j12, j13, j14, j15, j16, j17, j18, .int .i64 n, .int .i64 k, j21, j22, .pointer (some ⟨N + 1, 0, none⟩), .pointer (some ⟨N + 1, 0, none⟩), .pointer (some ⟨N + 1, 0, none⟩), .slice (some ⟨N, 0, none⟩) n n, .int .i64 k, j28, j29, j30, j31], []⟩ (.inRegion O7 l :: [.inBlock 1, .code R8, .inLoop L18, .inBlock 0, .code E18])) cs) W) (rs := [5]) (by kernel_rfl) (by decide) (fun i hi q => ?_) q
    simp only [List.mem_cons, List.not_mem_nil, or_false] at hi
    subst hi
    · simp only [O7, blk18, L18, LB18, body18, Try.f18, Option.getD_some]
      refine t_mv (W.alloc (.chan 1 #[] false 0 0 false)) (.chan (some (N + 2 + k))) rfl rfl (by k_ne) (fun d => by have h1 := make_chan (W.at d); rw [at_alloc, at_size, hsz] at h1; go_simp) (fun d e hm => by have h1 := make_chan_e (W.at d); simp [go_sem, h1] at hm) ?_
      walk_nrm
      exact S012345 q
  have S01235 : ∀ (q : Nat), To Try.prog Fin Sh B (G ((base 18).at ⟨#[.int .i64 n, j1, .pointer none, .pointer (some ⟨N + 1, 0, none⟩), .int .i64 k, j5, j6, j7, j8, j9, j10, j11, j12, j13, j14, j15, j16, j17, j18, .int .i64 n, .int .i64 k, j21, j22, .pointer (some ⟨N + 1, 0, none⟩), .pointer (some ⟨N + 1, 0, none⟩), .pointer (some ⟨N + 1, 0, none⟩), .slice (some ⟨N, 0, none⟩) n n, j27, .chan (some (N + 2 + k)), j29, j30, j31], []⟩ (.inRegion O7 (Region.linearise.go .any O7 3 q #[true, true, true, true, false, true, false, false] []) :: [.inBlock 1, .code R8, .inLoop L18, .inBlock 0, .code E18])) cs) (W.alloc (.chan 1 #[] false 0 0 false)) := by
    intro q
    refine any_step (X := fun l => To Try.prog Fin Sh B (G ((base 18).at ⟨#[.int .i64 n, j1, .pointer none, .pointer (some ⟨N + 1, 0, none⟩), .int .i64 k, j5, j6, j7, j8, j9, j10, j11, j12, j13, j14, j15, j16, j17, j18, .int .i64 n, .int .i64 k, j21, j22, .pointer (some ⟨N + 1, 0, none⟩), .pointer (some ⟨N + 1, 0, none⟩), .pointer (some ⟨N + 1, 0, none⟩), .slice (some ⟨N, 0, none⟩) n n, j27, .chan (some (N + 2 + k)), j29, j30, j31], []⟩ (.inRegion O7 l :: [.inBlock 1, .code R8, .inLoop L18, .inBlock 0, .code E18])) cs) (W.alloc (.chan 1 #[] false 0 0 false))) (rs := [4]) (by kernel_rfl) (by decide) (fun i hi q => ?_) q
    simp only [List.mem_cons, List.not_mem_nil, or_false] at hi
    subst hi
    · simp only [O7, blk18, L18, LB18, body18, Try.f18, Option.getD_some]
      refine t_val (.int .i64 k) rfl rfl (by k_ne) (fun _ => by go_simp) (fun _ => by simp [go_sem]) ?_
      walk_nrm
      exact S012345 q
  have S01245 : ∀ (q : Nat), To Try.prog Fin Sh B (G ((base 18).at ⟨#[.int .i64 n, j1, .pointer none, .pointer (some ⟨N + 1, 0, none⟩), .int .i64 k, j5, j6, j7, j8, j9, j10, j11, j12, j13, j14, j15, j16, j17, j18, .int .i64 n, .int .i64 k, j21, j22, .pointer (some ⟨N + 1, 0, none⟩), .pointer (some ⟨N + 1, 0, none⟩), .pointer (some ⟨N + 1, 0, none⟩), j26, .int .i64 k, .chan (some (N + 2 + k)), j29, j30, j31], []⟩ (.inRegion O7 (Region.linearise.go .any O7 3 q #[true, true, true, false, true, true, false, false] []) :: [.inBlock 1, .code R8, .inLoop L18, .inBlock 0, .code E18])) cs) (W.alloc (.chan 1 #[] false 0 0 false)) := by
    intro q
    refine any_step (X := fun l => To Try.prog Fin Sh B (G ((base 18).at ⟨#[.int .i64 n, j1, .pointer none, .pointer (some ⟨N + 1, 0, none⟩), .int .i64 k, j5, j6, j7, j8, j9, j10, j11, j12, j13, j14, j15, j16, j17, j18, .int .i64 n, .int .i64 k, j21, j22, .pointer (some ⟨N + 1, 0, none⟩), .pointer (some ⟨N + 1, 0, none⟩), .pointer (some ⟨N + 1, 0, none⟩), j26, .int .i64 k, .chan (some (N + 2 + k)), j29, j30, j31], []⟩ (.inRegion O7 l :: [.inBlock 1, .code R8, .inLoop L18, .inBlock 0, .code E18])) cs) (W.alloc (.chan 1 #[] false 0 0 false))) (rs := [3]) (by kernel_rfl) (by decide) (fun i hi q => ?_) q
    simp only [List.mem_cons, List.not_mem_nil, or_false] at hi
    subst hi
    · simp only [O7, blk18, L18, LB18, body18, Try.f18, Option.getD_some]
      refine t_mv (W.alloc (.chan 1 #[] false 0 0 false)) (.slice (some ⟨N, 0, none⟩) n n) rfl rfl (by k_ne) (fun d => by have hc := hcA; go_simp) (fun d e hm => by have hc := hcA; simp [go_sem, hc] at hm; subst hm; exact evL_cell _ _ (hns _ (.inr rfl)) ((show N + 1 < B from by omega))) ?_
      walk_nrm
      exact S012345 q
  have S0123 : ∀ (q : Nat), To Try.prog Fin Sh B (G ((base 18).at ⟨#[.int .i64 n, j1, .pointer none, .pointer (some ⟨N + 1, 0, none⟩), .int .i64 k, j5, j6, j7, j8, j9, j10, j11, j12, j13, j14, j15, j16, j17, j18, .int .i64 n, .int .i64 k, j21, j22, .pointer (some ⟨N + 1, 0, none⟩), .pointer (some ⟨N + 1, 0, none⟩), .pointer (some ⟨N + 1, 0, none⟩), .slice (some ⟨N, 0, none⟩) n n, j27, j28, j29, j30, j31], []⟩ (.inRegion O7 (Region.linearise.go .any O7 4 q #[true, true, true, true, false, false, false, false] []) :: [.inBlock 1, .code R8, .inLoop L18, .inBlock 0, .code E18])) cs) W := by
    intro q
    refine any_step (X := fun l => To Try.prog Fin Sh B (G ((base 18).at ⟨#[.int .i64 n, j1, .pointer none, .pointer (some ⟨N + 1, 0, none⟩), .int .i64 k, j5, j6, j7, j8, j9, j10, j11, j12, j13, j14, j15, j16, j17, j18, .int .i64 n, .int .i64 k, j21, j22, .pointer (some ⟨N + 1, 0, none⟩), .pointer (some ⟨N + 1, 0, none⟩), .pointer (some ⟨N + 1, 0, none⟩), .slice (some ⟨N, 0, none⟩) n n, j27, j28, j29, j30, j31], []⟩ (.inRegion O7 l :: [.inBlock 1, .code R8, .inLoop L18, .inBlock 0, .code E18])) cs) W) (rs := [4, 5]) (by kernel_rfl) (by decide) (fun i hi q => ?_) q
    simp only [List.mem_cons, List.not_mem_nil, or_false] at hi
    rcases hi with rfl | rfl
    · simp only [O7, blk18, L18, LB18, body18, Try.f18, Option.getD_some]
      refine t_val (.int .i64 k) rfl rfl (by k_ne) (fun _ => by go_simp) (fun _ => by simp [go_sem]) ?_
      walk_nrm
      exact S01234 q
    · simp only [O7, blk18, L18, LB18, body18, Try.f18, Option.getD_some]
      refine t_mv (W.alloc (.chan 1 #[] false 0 0 false)) (.chan (some (N + 2 + k))) rfl rfl (by k_ne) (fun d => by have h1 := make_chan (W.at d); rw [at_alloc, at_size, hsz] at h1; go_simp) (fun d e hm => by have h1 := make_chan_e (W.at d); simp [go_sem, h1] at hm) ?_
      walk_nrm
      exact S01235 q
  have S0124 : ∀ (q : Nat), To Try.prog Fin Sh B (G ((base 18).at ⟨#[.int .i64 n, j1, .pointer none, .pointer (some ⟨N + 1, 0, none⟩), .int .i64 k, j5, j6, j7, j8, j9, j10, j11, j12, j13, j14, j15, j16, j17, j18, .int .i64 n, .int .i64 k, j21, j22, .pointer (some ⟨N + 1, 0, none⟩), .pointer (some ⟨N + 1, 0, none⟩), .pointer (some ⟨N + 1, 0, none⟩), j26, .int .i64 k, j28, j29, j30, j31], []⟩ (.inRegion O7 (Region.linearise.go .any O7 4 q #[true, true, true, false, true, false, false, false] []) :: [.inBlock 1, .code R8, .inLoop L18, .inBlock 0, .code E18])) cs) W := by
    intro q
    refine any_step (X := fun l => To Try.prog Fin Sh B (G ((base 18).at ⟨#[.int .i64 n, j1, .pointer none, .pointer (some ⟨N + 1, 0, none⟩), .int .i64 k, j5, j6, j7, j8, j9, j10, j11, j12, j13, j14, j15, j16, j17, j18, .int .i64 n, .int .i64 k, j21, j22, .pointer (some ⟨N + 1, 0, none⟩), .pointer (some ⟨N + 1, 0, none⟩), .pointer (some ⟨N + 1, 0, none⟩), j26, .int .i64 k, j28, j29, j30, j31], []⟩ (.inRegion O7 l :: [.inBlock 1, .code R8, .inLoop L18, .inBlock 0, .code E18])) cs) W) (rs := [3, 5]) (by kernel_rfl) (by decide) (fun i hi q => ?_) q
    simp only [List.mem_cons, List.not_mem_nil, or_false] at hi
    rcases hi with rfl | rfl
    · simp only [O7, blk18, L18, LB18, body18, Try.f18, Option.getD_some]
      refine t_mv (W) (.slice (some ⟨N, 0, none⟩) n n) rfl rfl (by k_ne) (fun d => by have hc := hc; go_simp) (fun d e hm => by have hc := hc; simp [go_sem, hc] at hm; subst hm; exact evL_cell _ _ (hns _ (.inr rfl)) ((show N + 1 < B from by omega))) ?_
      walk_nrm
      exact S01234 q
    · simp only [O7, blk18, L18, LB18, body18, Try.f18, Option.getD_some]
      refine t_mv (W.alloc (.chan 1 #[] false 0 0 false)) (.chan (some (N + 2 + k))) rfl rfl (by k_ne) (fun d => by have h1 := make_chan (W.at d); rw [at_alloc, at_size, hsz] at h1; go_simp) (fun d e hm => by have h1 := make_chan_e (W.at d); simp [go_sem, h1] at hm) ?_
      walk_nrm
      exact S01245 q
  have S0125 : ∀ (q : Nat), To Try.prog Fin Sh B (G ((base 18).at ⟨#[.int .i64 n, j1, .pointer none, .pointer (some ⟨N + 1, 0, none⟩), .int .i64 k, j5, j6, j7, j8, j9, j10, j11, j12, j13, j14, j15, j16, j17, j18, .int .i64 n, .int .i64 k, j21, j22, .pointer (some ⟨N + 1, 0, none⟩), .pointer (some ⟨N + 1, 0, none⟩), .pointer (some ⟨N + 1, 0, none⟩), j26, j27, .chan (some (N + 2 + k)), j29, j30, j31], []⟩ (.inRegion O7 (Region.linearise.go .any O7 4 q #[true, true, true, false, false, true, false, false] []) :: [.inBlock 1, .code R8, .inLoop L18, .inBlock 0, .code E18])) cs) (W.alloc (.chan 1 #[] false 0 0 false)) := by
    intro q
    refine any_step (X := fun l => To Try.prog Fin Sh B (G ((base 18).at ⟨#[.int .i64 n, j1, .pointer none, .pointer (some ⟨N + 1, 0, none⟩), .int .i64 k, j5, j6, j7, j8, j9, j10, j11, j12, j13, j14, j15, j16, j17, j18, .int .i64 n, .int .i64 k, j21, j22, .pointer (some ⟨N + 1, 0, none⟩), .pointer (some ⟨N + 1, 0, none⟩), .pointer (some ⟨N + 1, 0, none⟩), j26, j27, .chan (some (N + 2 + k)), j29, j30, j31], []⟩ (.inRegion O7 l :: [.inBlock 1, .code R8, .inLoop L18, .inBlock 0, .code E18])) cs) (W.alloc (.chan 1 #[] false 0 0 false))) (rs := [3, 4]) (by kernel_rfl) (by decide) (fun i hi q => ?_) q
    simp only [List.mem_cons, List.not_mem_nil, or_false] at hi
    rcases hi with rfl | rfl
    · simp only [O7, blk18, L18, LB18, body18, Try.f18, Option.getD_some]
      refine t_mv (W.alloc (.chan 1 #[] false 0 0 false)) (.slice (some ⟨N, 0, none⟩) n n) rfl rfl (by k_ne) (fun d => by have hc := hcA; go_simp) (fun d e hm => by have hc := hcA; simp [go_sem, hc] at hm; subst hm; exact evL_cell _ _ (hns _ (.inr rfl)) ((show N + 1 < B from by omega))) ?_
      walk_nrm
      exact S01235 q
    · simp only [O7, blk18, L18, LB18, body18, Try.f18, Option.getD_some]
      refine t_val (.int .i64 k) rfl rfl (by k_ne) (fun _ => by go_simp) (fun _ => by simp [go_sem]) ?_
      walk_nrm
      exact S01245 q
  have S0145 : ∀ (q : Nat), To Try.prog Fin Sh B (G ((base 18).at ⟨#[.int .i64 n, j1, .pointer none, .pointer (some ⟨N + 1, 0, none⟩), .int .i64 k, j5, j6, j7, j8, j9, j10, j11, j12, j13, j14, j15, j16, j17, j18, .int .i64 n, .int .i64 k, j21, j22, .pointer (some ⟨N + 1, 0, none⟩), .pointer (some ⟨N + 1, 0, none⟩), j25, j26, .int .i64 k, .chan (some (N + 2 + k)), j29, j30, j31], []⟩ (.inRegion O7 (Region.linearise.go .any O7 4 q #[true, true, false, false, true, true, false, false] []) :: [.inBlock 1, .code R8, .inLoop L18, .inBlock 0, .code E18])) cs) (W.alloc (.chan 1 #[] false 0 0 false)) := by
    intro q
    refine any_step (X := fun l => To Try.prog Fin Sh B (G ((base 18).at ⟨#[.int .i64 n, j1, .pointer none, .pointer (some ⟨N + 1, 0, none⟩), .int .i64 k, j5, j6, j7, j8, j9, j10, j11, j12, j13, j14, j15, j16, j17, j18, .int .i64 n, .int .i64 k, j21, j22, .pointer (some ⟨N + 1, 0, none⟩), .pointer (some ⟨N + 1, 0, none⟩), j25, j26, .int .i64 k, .chan (some (N + 2 + k)), j29, j30, j31], []⟩ (.inRegion O7 l :: [.inBlock 1, .code R8, .inLoop L18, .inBlock 0, .code E18])) cs) (W.alloc (.chan 1 #[] false 0 0 false))) (rs := [2]) (by kernel_rfl) (by decide) (fun i hi q => ?_) q
    simp only [List.mem_cons, List.not_mem_nil, or_false] at hi
    subst hi
    · simp only [O7, blk18, L18, LB18, body18, Try.f18, Option.getD_some]
      refine t_val (.pointer (some ⟨N + 1, 0, none⟩)) rfl rfl (by k_ne) (fun _ => by go_simp) (fun _ => by simp [go_sem]) ?_
      walk_nrm
      exact S01245 q
  have S012 : ∀ (q : Nat), To Try.prog Fin Sh B (G ((base 18).at ⟨#[.int .i64 n, j1, .pointer none, .pointer (some ⟨N + 1, 0, none⟩), .int .i64 k, j5, j6, j7, j8, j9, j10, j11, j12, j13, j14, j15, j16, j17, j18, .int .i64 n, .int .i64 k, j21, j22, .pointer (some ⟨N + 1, 0, none⟩), .pointer (some ⟨N + 1, 0, none⟩), .pointer (some ⟨N + 1, 0, none⟩), j26, j27, j28, j29, j30, j31], []⟩ (.inRegion O7 (Region.linearise.go .any O7 5 q #[true, true, true, false, false, false, false, false] []) :: [.inBlock 1, .code R8, .inLoop L18, .inBlock 0, .code E18])) cs) W := by
    intro q
    refine any_step (X := fun l => To Try.prog Fin Sh B (G ((base 18).at ⟨#[.int .i64 n, j1, .pointer none, .pointer (some ⟨N + 1, 0, none⟩), .int .i64 k, j5, j6, j7, j8, j9, j10, j11, j12, j13, j14, j15, j16, j17, j18, .int .i64 n, .int .i64 k, j21, j22, .pointer (some ⟨N + 1, 0, none⟩), .pointer (some ⟨N + 1, 0, none⟩), .pointer (some ⟨N + 1, 0, none⟩), j26, j27, j28, j29, j30, j31], []⟩ (.inRegion O7 l :: [.inBlock 1, .code R8, .inLoop L18, .inBlock 0, .code E18])) cs) W) (rs := [3, 4, 5]) (by kernel_rfl) (by decide) (fun i hi q => ?_) q
    simp only [List.mem_cons, List.not_mem_nil, or_false] at hi
    rcases hi with rfl | rfl | rfl
    · simp only [O7, blk18, L18, LB18, body18, Try.f18, Option.getD_some]
      refine t_mv (W) (.slice (some ⟨N, 0, none⟩) n n) rfl rfl (by k_ne) (fun d => by have hc := hc; go_simp) (fun d e hm => by have hc := hc; simp [go_sem, hc] at hm; subst hm; exact evL_cell _ _ (hns _ (.inr rfl)) ((show N + 1 < B from by omega))) ?_
      walk_nrm
      exact S0123 q
    · simp only [O7, blk18, L18, LB18, body18, Try.f18, Option.getD_some]
      refine t_val (.int .i64 k) rfl rfl (by k_ne) (fun _ => by go_simp) (fun _ => by simp [go_sem]) ?_
      walk_nrm
      exact S0124 q
    · simp only [O7, blk18, L18, LB18, body18, Try.f18, Option.getD_some]
      refine t_mv (W.alloc (.chan 1 #[] false 0 0 false)) (.chan (some (N + 2 + k))) rfl rfl (by k_ne) (fun d => by have h1 := make_chan (W.at d); rw [at_alloc, at_size, hsz] at h1; go_simp) (fun d e hm => by have h1 := make_chan_e (W.at d); simp [go_sem, h1] at hm) ?_
      walk_nrm
      exact S0125 q
  have S014 : ∀ (q : Nat), To Try.prog Fin Sh B (G ((base 18).at ⟨#[.int .i64 n, j1, .pointer none, .pointer (some ⟨N + 1, 0, none⟩), .int .i64 k, j5, j6, j7, j8, j9, j10, j11, j12, j13, j14, j15, j16, j17, j18, .int .i64 n, .int .i64 k, j21, j22, .pointer (some ⟨N + 1, 0, none⟩), .pointer (some ⟨N + 1, 0, none⟩), j25, j26, .int .i64 k, j28, j29, j30, j31], []⟩ (.inRegion O7 (Region.linearise.go .any O7 5 q #[true, true, false, false, true, false, false, false] []) :: [.inBlock 1, .code R8, .inLoop L18, .inBlock 0, .code E18])) cs) W := by
    intro q
    refine any_step (X := fun l => To Try.prog Fin Sh B (G ((base 18).at ⟨#[.int .i64 n, j1, .pointer none, .pointer (some ⟨N + 1, 0, none⟩), .int .i64 k, j5, j6, j7, j8, j9, j10, j11, j12, j13, j14, j15, j16, j17, j18, .int .i64 n, .int .i64 k, j21, j22, .pointer (some ⟨N + 1, 0, none⟩), .pointer (some ⟨N + 1, 0, none⟩), j25, j26, .int .i64 k, j28, j29, j30, j31], []⟩ (.inRegion O7 l :: [.inBlock 1, .code R8, .inLoop L18, .inBlock 0, .code E18])) cs) W) (rs := [2, 5]) (by kernel_rfl) (by decide) (fun i hi q => ?_) q
    simp only [List.mem_cons, List.not_mem_nil, or_false] at hi
    rcases hi with rfl | rfl
    · simp only [O7, blk18, L18, LB18, body18, Try.f18, Option.getD_some]
      refine t_val (.pointer (some ⟨N + 1, 0, none⟩)) rfl rfl (by k_ne) (fun _ => by go_simp) (fun _ => by simp [go_sem]) ?_
      walk_nrm
      exact S0124 q
    · simp only [O7, blk18, L18, LB18, body18, Try.f18, Option.getD_some]
      refine t_mv (W.alloc (.chan 1 #[] false 0 0 false)) (.chan (some (N + 2 + k))) rfl rfl (by k_ne) (fun d => by have h1 := make_chan (W.at d); rw [at_alloc, at_size, hsz] at h1; go_simp) (fun d e hm => by have h1 := make_chan_e (W.at d); simp [go_sem, h1] at hm) ?_
      walk_nrm
      exact S0145 q
  have S015 : ∀ (q : Nat), To Try.prog Fin Sh B (G ((base 18).at ⟨#[.int .i64 n, j1, .pointer none, .pointer (some ⟨N + 1, 0, none⟩), .int .i64 k, j5, j6, j7, j8, j9, j10, j11, j12, j13, j14, j15, j16, j17, j18, .int .i64 n, .int .i64 k, j21, j22, .pointer (some ⟨N + 1, 0, none⟩), .pointer (some ⟨N + 1, 0, none⟩), j25, j26, j27, .chan (some (N + 2 + k)), j29, j30, j31], []⟩ (.inRegion O7 (Region.linearise.go .any O7 5 q #[true, true, false, false, false, true, false, false] []) :: [.inBlock 1, .code R8, .inLoop L18, .inBlock 0, .code E18])) cs) (W.alloc (.chan 1 #[] false 0 0 false)) := by
    intro q
    refine any_step (X := fun l => To Try.prog Fin Sh B (G ((base 18).at ⟨#[.int .i64 n, j1, .pointer none, .pointer (some ⟨N + 1, 0, none⟩), .int .i64 k, j5, j6, j7, j8, j9, j10, j11, j12, j13, j14, j15, j16, j17, j18, .int .i64 n, .int .i64 k, j21, j22, .pointer (some ⟨N + 1, 0, none⟩), .pointer (some ⟨N + 1, 0, none⟩), j25, j26, j27, .chan (some (N + 2 + k)), j29, j30, j31], []⟩ (.inRegion O7 l :: [.inBlock 1, .code R8, .inLoop L18, .inBlock 0, .code E18])) cs) (W.alloc (.chan 1 #[] false 0 0 false))) (rs := [2, 4]) (by kernel_rfl) (by decide) (fun i hi q => ?_) q
    simp only [List.mem_cons, List.not_mem_nil, or_false] at hi
    rcases hi with rfl | rfl
    · simp only [O7, blk18, L18, LB18, body18, Try.f18, Option.getD_some]
      refine t_val (.pointer (some ⟨N + 1, 0, none⟩)) rfl rfl (by k_ne) (fun _ => by go_simp) (fun _ => by simp [go_sem]) ?_
      walk_nrm
      exact S0125 q
    · simp only [O7, blk18, L18, LB18, body18, Try.f18, Option.getD_some]
      refine t_val (.int .i64 k) rfl rfl (by k_ne) (fun _ => by go_simp) (fun _ => by simp [go_sem]) ?_
      walk_nrm
      exact S0145 q
  have S045 : ∀ (q : Nat), To Try.prog Fin Sh B (G ((base 18).at ⟨#[.int .i64 n, j1, .pointer none, .pointer (some ⟨N + 1, 0, none⟩), .int .i64 k, j5, j6, j7, j8, j9, j10, j11, j12, j13, j14, j15, j16, j17, j18, .int .i64 n, .int .i64 k, j21, j22, .pointer (some ⟨N + 1, 0, none⟩), j24, j25, j26, .int .i64 k, .chan (some (N + 2 + k)), j29, j30, j31], []⟩ (.inRegion O7 (Region.linearise.go .any O7 5 q #[true, false, false, false, true, true, false, false] []) :: [.inBlock 1, .code R8, .inLoop L18, .inBlock 0, .code E18])) cs) (W.alloc (.chan 1 #[] false 0 0 false)) := by
    intro q
    refine any_step (X := fun l => To Try.prog Fin Sh B (G ((base 18).at ⟨#[.int .i64 n, j1, .pointer none, .pointer (some ⟨N + 1, 0, none⟩), .int .i64 k, j5, j6, j7, j8, j9, j10, j11, j12, j13, j14, j15, j16, j17, j18, .int .i64 n, .int .i64 k, j21, j22, .pointer (some ⟨N + 1, 0, none⟩), j24, j25, j26, .int .i64 k, .chan (some (N + 2 + k)), j29, j30, j31], []⟩ (.inRegion O7 l :: [.inBlock 1, .code R8, .inLoop L18, .inBlock 0, .code E18])) cs) (W.alloc (.chan 1 #[] false 0 0 false))) (rs := [1]) (by kernel_rfl) (by decide) (fun i hi q => ?_) q
    simp only [List.mem_cons, List.not_mem_nil, or_false] at hi
    subst hi
    · simp only [O7, blk18, L18, LB18, body18, Try.f18, Option.getD_some]
      refine t_val (.pointer (some ⟨N + 1, 0, none⟩)) rfl rfl (by k_ne) (fun _ => by go_simp) (fun _ => by simp [go_sem]) ?_
      walk_nrm
      exact S0145 q
  have S01 : ∀ (q : Nat), To Try.prog Fin Sh B (G ((base 18).at ⟨#[.int .i64 n, j1, .pointer none, .pointer (some ⟨N + 1, 0, none⟩), .int .i64 k, j5, j6, j7, j8, j9, j10, j11, j12, j13, j14, j15, j16, j17, j18, .int .i64 n, .int .i64 k, j21, j22, .pointer (some ⟨N + 1, 0, none⟩), .pointer (some ⟨N + 1, 0, none⟩), j25, j26, j27, j28, j29, j30, j31], []⟩ (.inRegion O7 (Region.linearise.go .any O7 6 q #[true, true, false, false, false, false, false, false] []) :: [.inBlock 1, .code R8, .inLoop L18, .inBlock 0, .code E18])) cs) W := by
    intro q
    refine any_step (X := fun l => To Try.prog Fin Sh B (G ((base 18).at ⟨#[.int .i64 n, j1, .pointer none, .pointer (some ⟨N + 1, 0, none⟩), .int .i64 k, j5, j6, j7, j8, j9, j10, j11, j12, j13, j14, j15, j16, j17, j18, .int .i64 n, .int .i64 k, j21, j22, .pointer (some ⟨N + 1, 0, none⟩), .pointer (some ⟨N + 1, 0, none⟩), j25, j26, j27, j28, j29, j30, j31], []⟩ (.inRegion O7 l :: [.inBlock 1, .code R8, .inLoop L18, .inBlock 0, .code E18])) cs) W) (rs := [2, 4, 5]) (by kernel_rfl) (by decide) (fun i hi q => ?_) q
    simp only [List.mem_cons, List.not_mem_nil, or_false] at hi
    rcases hi with rfl | rfl | rfl
    · simp only [O7, blk18, L18, LB18, body18, Try.f18, Option.getD_some]
      refine t_val (.pointer (some ⟨N + 1, 0, none⟩)) rfl rfl (by k_ne) (fun _ => by go_simp) (fun _ => by simp [go_sem]) ?_
      walk_nrm
      exact S012 q
    · simp only [O7, blk18, L18, LB18, body18, Try.f18, Option.getD_some]
      refine t_val (.int .i64 k) rfl rfl (by k_ne) (fun _ => by go_simp) (fun _ => by simp [go_sem]) ?_
      walk_nrm
      exact S014 q
    · simp only [O7, blk18, L18, LB18, body18, Try.f18, Option.getD_some]
      refine t_mv (W.alloc (.chan 1 #[] false 0 0 false)) (.chan (some (N + 2 + k))) rfl rfl (by k_ne) (fun d => by have h1 := make_chan (W.at d); rw [at_alloc, at_size, hsz] at h1; go_simp) (fun d e hm => by have h1 := make_chan_e (W.at d); simp [go_sem, h1] at hm) ?_
      walk_nrm
      exact S015 q
  have S04 : ∀ (q : Nat), To Try.prog Fin Sh B (G ((base 18).at ⟨#[.int .i64 n, j1, .pointer none, .pointer (some ⟨N + 1, 0, none⟩), .int .i64 k, j5, j6, j7, j8, j9, j10, j11, j12, j13, j14, j15, j16, j17, j18, .int .i64 n, .int .i64 k, j21, j22, .pointer (some ⟨N + 1, 0, none⟩), j24, j25, j26, .int .i64 k, j28, j29, j30, j31], []⟩ (.inRegion O7 (Region.linearise.go .any O7 6 q #[true, false, false, false, true, false, false, false] []) :: [.inBlock 1, .code R8, .inLoop L18, .inBlock 0, .code E18])) cs) W := by
    intro q
    refine any_step (X := fun l => To Try.prog Fin Sh B (G ((base 18).at ⟨#[.int .i64 n, j1, .pointer none, .pointer (some ⟨N + 1, 0, none⟩), .int .i64 k, j5, j6, j7, j8, j9, j10, j11, j12, j13, j14, j15, j16, j17, j18, .int .i64 n, .int .i64 k, j21, j22, .pointer (some ⟨N + 1, 0, none⟩), j24, j25, j26, .int .i64 k, j28, j29, j30, j31], []⟩ (.inRegion O7 l :: [.inBlock 1, .code R8, .inLoop L18, .inBlock 0, .code E18])) cs) W) (rs := [1, 5]) (by kernel_rfl) (by decide) (fun i hi q => ?_) q
    simp only [List.mem_cons, List.not_mem_nil, or_false] at hi
    rcases hi with rfl | rfl
    · simp only [O7, blk18, L18, LB18, body18, Try.f18, Option.getD_some]
      refine t_val (.pointer (some ⟨N + 1, 0, none⟩)) rfl rfl (by k_ne) (fun _ => by go_simp) (fun _ => by simp [go_sem]) ?_
      walk_nrm
      exact S014 q
    · simp only [O7, blk18, L18, LB18, body18, Try.f18, Option.getD_some]
      refine t_mv (W.alloc (.chan 1 #[] false 0 0 false)) (.chan (some (N + 2 + k))) rfl rfl (by k_ne) (fun d => by have h1 := make_chan (W.at d); rw [at_alloc, at_size, hsz] at h1; go_simp) (fun d e hm => by have h1 := make_chan_e (W.at d); simp [go_sem, h1] at hm) ?_
      walk_nrm
      exact S045 q
  have S05 : ∀ (q : Nat), To Try.prog Fin Sh B (G ((base 18).at ⟨#[.int .i64 n, j1, .pointer none, .pointer (some ⟨N + 1, 0, none⟩), .int .i64 k, j5, j6, j7, j8, j9, j10, j11, j12, j13, j14, j15, j16, j17, j18, .int .i64 n, .int .i64 k, j21, j22, .pointer (some ⟨N + 1, 0, none⟩), j24, j25, j26, j27, .chan (some (N + 2 + k)), j29, j30, j31], []⟩ (.inRegion O7 (Region.linearise.go .any O7 6 q #[true, false, false, false, false, true, false, false] []) :: [.inBlock 1, .code R8, .inLoop L18, .inBlock 0, .code E18])) cs) (W.alloc (.chan 1 #[] false 0 0 false)) := by
    intro q
    refine any_step (X := fun l => To Try.prog Fin Sh B (G ((base 18).at ⟨#[.int .i64 n, j1, .pointer none, .pointer (some ⟨N + 1, 0, none⟩), .int .i64 k, j5, j6, j7, j8, j9, j10, j11, j12, j13, j14, j15, j16, j17, j18, .int .i64 n, .int .i64 k, j21, j22, .pointer (some ⟨N + 1, 0, none⟩), j24, j25, j26, j27, .chan (some (N + 2 + k)), j29, j30, j31], []⟩ (.inRegion O7 l :: [.inBlock 1, .code R8, .inLoop L18, .inBlock 0, .code E18])) cs) (W.alloc (.chan 1 #[] false 0 0 false))) (rs := [1, 4]) (by kernel_rfl) (by decide) (fun i hi q => ?_) q
    simp only [List.mem_cons, List.not_mem_nil, or_false] at hi
    rcases hi with rfl | rfl
    · simp only [O7, blk18, L18, LB18, body18, Try.f18, Option.getD_some]
      refine t_val (.pointer (some ⟨N + 1, 0, none⟩)) rfl rfl (by k_ne) (fun _ => by go_simp) (fun _ => by simp [go_sem]) ?_
      walk_nrm
      exact S015 q
    · simp only [O7, blk18, L18, LB18, body18, Try.f18, Option.getD_some]
      refine t_val (.int .i64 k) rfl rfl (by k_ne) (fun _ => by go_simp) (fun _ => by simp [go_sem]) ?_
      walk_nrm
      exact S045 q
  have S45 : ∀ (q : Nat), To Try.prog Fin Sh B (G ((base 18).at ⟨#[.int .i64 n, j1, .pointer none, .pointer (some ⟨N + 1, 0, none⟩), .int .i64 k, j5, j6, j7, j8, j9, j10, j11, j12, j13, j14, j15, j16, j17, j18, .int .i64 n, .int .i64 k, j21, j22, j23, j24, j25, j26, .int .i64 k, .chan (some (N + 2 + k)), j29, j30, j31], []⟩ (.inRegion O7 (Region.linearise.go .any O7 6 q #[false, false, false, false, true, true, false, false] []) :: [.inBlock 1, .code R8, .inLoop L18, .inBlock 0, .code E18])) cs) (W.alloc (.chan 1 #[] false 0 0 false)) := by
    intro q
    refine any_step (X := fun l => To Try.prog Fin Sh B (G ((base 18).at ⟨#[.int .i64 n, j1, .pointer none, .pointer (some ⟨N + 1, 0, none⟩), .int .i64 k, j5, j6, j7, j8, j9, j10, j11, j12, j13, j14, j15, j16, j17, j18, .int .i64 n, .int .i64 k, j21, j22, j23, j24, j25, j26, .int .i64 k, .chan (some (N + 2 + k)), j29, j30, j31], []⟩ (.inRegion O7 l :: [.inBlock 1, .code R8, .inLoop L18, .inBlock 0, .code E18])) cs) (W.alloc (.chan 1 #[] false 0 0 false))) (rs := [0]) (by kernel_rfl) (by decide) (fun i hi q => ?_) q
    simp only [List.mem_cons, List.not_mem_nil, or_false] at hi
    subst hi
    · simp only [O7, blk18, L18, LB18, body18, Try.f18, Option.getD_some]
      refine t_val (.pointer (some ⟨N + 1, 0, none⟩)) rfl rfl (by k_ne) (fun _ => by go_simp) (fun _ => by simp [go_sem]) ?_
      walk_nrm
      exact S045 q
  have S0 : ∀ (q : Nat), To Try.prog Fin Sh B (G ((base 18).at ⟨#[.int .i64 n, j1, .pointer none, .pointer (some ⟨N + 1, 0, none⟩), .int .i64 k, j5, j6, j7, j8, j9, j10, j11, j12, j13, j14, j15, j16, j17, j18, .int .i64 n, .int .i64 k, j21, j22, .pointer (some ⟨N + 1, 0, none⟩), j24, j25, j26, j27, j28, j29, j30, j31], []⟩ (.inRegion O7 (Region.linearise.go .any O7 7 q #[true, false, false, false, false, false, false, false] []) :: [.inBlock 1, .code R8, .inLoop L18, .inBlock 0, .code E18])) cs) W := by
    intro q
    refine any_step (X := fun l => To Try.prog Fin Sh B (G ((base 18).at ⟨#[.int .i64 n, j1, .pointer none, .pointer (some ⟨N + 1, 0, none⟩), .int .i64 k, j5, j6, j7, j8, j9, j10, j11, j12, j13, j14, j15, j16, j17, j18, .int .i64 n, .int .i64 k, j21, j22, .pointer (some ⟨N + 1, 0, none⟩), j24, j25, j26, j27, j28, j29, j30, j31], []⟩ (.inRegion O7 l :: [.inBlock 1, .code R8, .inLoop L18, .inBlock 0, .code E18])) cs) W) (rs := [1, 4, 5]) (by kernel_rfl) (by decide) (fun i hi q => ?_) q
    simp only [List.mem_cons, List.not_mem_nil, or_false] at hi
    rcases hi with rfl | rfl | rfl
    · simp only [O7, blk18, L18, LB18, body18, Try.f18, Option.getD_some]
      refine t_val (.pointer (some ⟨N + 1, 0, none⟩)) rfl rfl (by k_ne) (fun _ => by go_simp) (fun _ => by simp [go_sem]) ?_
      walk_nrm
      exact S01 q
    · simp only [O7, blk18, L18, LB18, body18, Try.f18, Option.getD_some]
      refine t_val (.int .i64 k) rfl rfl (by k_ne) (fun _ => by go_simp) (fun _ => by simp [go_sem]) ?_
      walk_nrm
      exact S04 q
    · simp only [O7, blk18, L18, LB18, body18, Try.f18, Option.getD_some]
      refine t_mv (W.alloc (.chan 1 #[] false 0 0 false)) (.chan (some (N + 2 + k))) rfl rfl (by k_ne) (fun d => by have h1 := make_chan (W.at d); rw [at_alloc, at_size, hsz] at h1; go_simp) (fun d e hm => by have h1 := make_chan_e (W.at d); simp [go_sem, h1] at hm) ?_
      walk_nrm
      exact S05 q
  have S4 : ∀ (q : Nat), To Try.prog Fin Sh B (G ((base 18).at ⟨#[.int .i64 n, j1, .pointer none, .pointer (some ⟨N + 1, 0, none⟩), .int .i64 k, j5, j6, j7, j8, j9, j10, j11, j12, j13, j14, j15, j16, j17, j18, .int .i64 n, .int .i64 k, j21, j22, j23, j24, j25, j26, .int .i64 k, j28, j29, j30, j31], []⟩ (.inRegion O7 (Region.linearise.go .any O7 7 q #[false, false, false, false, true, false, false, false] []) :: [.inBlock 1, .code R8, .inLoop L18, .inBlock 0, .code E18])) cs) W := by
    intro q
    refine any_step (X := fun l => To Try.prog Fin Sh B (G ((base 18).at ⟨#[.int .i64 n, j1, .pointer none, .pointer (some ⟨N + 1, 0, none⟩), .int .i64 k, j5, j6, j7, j8, j9, j10, j11, j12, j13, j14, j15, j16, j17, j18, .int .i64 n, .int .i64 k, j21, j22, j23, j24, j25, j26, .int .i64 k, j28, j29, j30, j31], []⟩ (.inRegion O7 l :: [.inBlock 1, .code R8, .inLoop L18, .inBlock 0, .code E18])) cs) W) (rs := [0, 5]) (by kernel_rfl) (by decide) (fun i hi q => ?_) q
    simp only [List.mem_cons, List.not_mem_nil, or_false] at hi
    rcases hi with rfl | rfl
    · simp only [O7, blk18, L18, LB18, body18, Try.f18, Option.getD_some]
      refine t_val (.pointer (some ⟨N + 1, 0, none⟩)) rfl rfl (by k_ne) (fun _ => by go_simp) (fun _ => by simp [go_sem]) ?_
      walk_nrm
      exact S04 q
    · simp only [O7, blk18, L18, LB18, body18, Try.f18, Option.getD_some]
      refine t_mv (W.alloc (.chan 1 #[] false 0 0 false)) (.chan (some (N + 2 + k))) rfl rfl (by k_ne) (fun d => by have h1 := make_chan (W.at d); rw [at_alloc, at_size, hsz] at h1; go_simp) (fun d e hm => by have h1 := make_chan_e (W.at d); simp [go_sem, h1] at hm) ?_
      walk_nrm
      exact S45 q
  have S5 : ∀ (q : Nat), To Try.prog Fin Sh B (G ((base 18).at ⟨#[.int .i64 n, j1, .pointer none, .pointer (some ⟨N + 1, 0, none⟩), .int .i64 k, j5, j6, j7, j8, j9, j10, j11, j12, j13, j14, j15, j16, j17, j18, .int .i64 n, .int .i64 k, j21, j22, j23, j24, j25, j26, j27, .chan (some (N + 2 + k)), j29, j30, j31], []⟩ (.inRegion O7 (Region.linearise.go .any O7 7 q #[false, false, false, false, false, true, false, false] []) :: [.inBlock 1, .code R8, .inLoop L18, .inBlock 0, .code E18])) cs) (W.alloc (.chan 1 #[] false 0 0 false)) := by
    intro q
    refine any_step (X := fun l => To Try.prog Fin Sh B (G ((base 18).at ⟨#[.int .i64 n, j1, .pointer none, .pointer (some ⟨N + 1, 0, none⟩), .int .i64 k, j5, j6, j7, j8, j9, j10, j11, j12, j13, j14, j15, j16, j17, j18, .int .i64 n, .int .i64 k, j21, j22, j23, j24, j25, j26, j27, .chan (some (N + 2 + k)), j29, j30, j31], []⟩ (.inRegion O7 l :: [.inBlock 1, .code R8, .inLoop L18, .inBlock 0, .code E18])) cs) (W.alloc (.chan 1 #[] false 0 0 false))) (rs := [0, 4]) (by kernel_rfl) (by decide) (fun i hi q => ?_) q
    simp only [List.mem_cons, List.not_mem_nil, or_false] at hi
    rcases hi with rfl | rfl
    · simp only [O7, blk18, L18, LB18, body18, Try.f18, Option.getD_some]
      refine t_val (.pointer (some ⟨N + 1, 0, none⟩)) rfl rfl (by k_ne) (fun _ => by go_simp) (fun _ => by simp [go_sem]) ?_
      walk_nrm
      exact S05 q
    · simp only [O7, blk18, L18, LB18, body18, Try.f18, Option.getD_some]
      refine t_val (.int .i64 k) rfl rfl (by k_ne) (fun _ => by go_simp) (fun _ => by simp [go_sem]) ?_
      walk_nrm
      exact S45 q
  have Se : ∀ (q : Nat), To Try.prog Fin Sh B (G ((base 18).at ⟨#[.int .i64 n, j1, .pointer none, .pointer (some ⟨N + 1, 0, none⟩), .int .i64 k, j5, j6, j7, j8, j9, j10, j11, j12, j13, j14, j15, j16, j17, j18, .int .i64 n, .int .i64 k, j21, j22, j23, j24, j25, j26, j27, j28, j29, j30, j31], []⟩ (.inRegion O7 (Region.linearise.go .any O7 8 q #[false, false, false, false, false, false, false, false] []) :: [.inBlock 1, .code R8, .inLoop L18, .inBlock 0, .code E18])) cs) W := by
    intro q
    refine any_step (X := fun l => To Try.prog Fin Sh B (G ((base 18).at ⟨#[.int .i64 n, j1, .pointer none, .pointer (some ⟨N + 1, 0, none⟩), .int .i64 k, j5, j6, j7, j8, j9, j10, j11, j12, j13, j14, j15, j16, j17, j18, .int .i64 n, .int .i64 k, j21, j22, j23, j24, j25, j26, j27, j28, j29, j30, j31], []⟩ (.inRegion O7 l :: [.inBlock 1, .code R8, .inLoop L18, .inBlock 0, .code E18])) cs) W) (rs := [0, 4, 5]) (by kernel_rfl) (by decide) (fun i hi q => ?_) q
    simp only [List.mem_cons, List.not_mem_nil, or_false] at hi
    rcases hi with rfl | rfl | rfl
    · simp only [O7, blk18, L18, LB18, body18, Try.f18, Option.getD_some]
      refine t_val (.pointer (some ⟨N + 1, 0, none⟩)) rfl rfl (by k_ne) (fun _ => by go_simp) (fun _ => by simp [go_sem]) ?_
      walk_nrm
      exact S0 q
    · simp only [O7, blk18, L18, LB18, body18, Try.f18, Option.getD_some]
      refine t_val (.int .i64 k) rfl rfl (by k_ne) (fun _ => by go_simp) (fun _ => by simp [go_sem]) ?_
      walk_nrm
      exact S4 q
    · simp only [O7, blk18, L18, LB18, body18, Try.f18, Option.getD_some]
      refine t_mv (W.alloc (.chan 1 #[] false 0 0 false)) (.chan (some (N + 2 + k))) rfl rfl (by k_ne) (fun d => by have h1 := make_chan (W.at d); rw [at_alloc, at_size, hsz] at h1; go_simp) (fun d e hm => by have h1 := make_chan_e (W.at d); simp [go_sem, h1] at hm) ?_
      walk_nrm
      exact S5 q
  exact Se q
end
end Go.Proofs.Ytejedbknpjffkaa.Rl
