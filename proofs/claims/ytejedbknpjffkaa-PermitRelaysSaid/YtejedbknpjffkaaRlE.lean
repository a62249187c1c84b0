/- THE RELAY: the walk through Wait's loop, in the relay's company. (Steps printed by rlwalk.py.) -/
import Derived.Test.YtejedbknpjffkaaRlD
namespace Go.Proofs.Ytejedbknpjffkaa.Rl
open Go Go.Conc Go.Conc.Lib Go.RowKit Go.ConcR.Gen
open Go.ConcN (ShN WgLive st_flag st_waiters)
open Go.ConcN.Gen (WgLive.cell0 WgLive.cell1)
open Go.ConcR (KK wgBlock WgAt stA smA rd wr mk)

theorem rm_setCell {Y : Lay} {w : World} {a : Addr} (ha : a.block = Y.Wg) (v : Value) (hl : WgLive Y.ty Y.Wg (w.setCell a v)) : RM Y w (w.setCell a v) := by
  have h := aside_setCell w a v
  rw [ha] at h
  exact .of_aside h (.inl rfl) fun _ => hl

section
variable {Y : Lay} {L : WgLink} {Back : Goroutine → World → Prop} {F : World → Prop} {b₀ : Frame} {a₀ : Act} {ops₀ : Array Oper} {i₀ : Nat} {rest₀ : List Nat} {k₀ : List Item} {cs : List Frame}

set_option maxRecDepth 100000 in
set_option maxHeartbeats 16000000 in
/-- FROM THE LOOP's HEAD. -/
theorem waitRound {P : Program} (hP : Y.P = P) (H : WgLib P L) (Gm : Geo Y) (hty : Y.ty = L.tWg) (hF2 : ∀ w w', RM Y w w' → F w → F w') {acqBack : Goroutine}
    (hacq : acqBack = Go.Conc.G (b₀.at (a₀.put ((ops₀[i₀]?).bind (·.dst)) (.tuple #[])) (.inRegion ops₀ rest₀ :: k₀)) cs)
    (hT : ∀ g w m, F w → WgLive Y.ty Y.Wg w → Goes P true (RM Y) Go.ConcR.DC0 (fun g' w' => g' = acqBack ∧ F w' ∧ WgLive Y.ty Y.Wg w') m g w → Back g w)
    (g : Goroutine) (w : World) (h : Anch Y L F (b₀.at a₀ (.inRegion ops₀ (i₀ :: rest₀) :: k₀)) cs g w) :
    ∃ m, Goes P true (RM Y) (DM Y Y.n) (AtW1 Y (Anch Y L F (b₀.at a₀ (.inRegion ops₀ (i₀ :: rest₀) :: k₀)) cs) Back) m g w := by
  obtain ⟨T, rfl, hT84, t0, hF⟩ := h
  rw [hty] at hF hT
  have hrl : ∀ {w w₁ : World}, F w ∧ WgLive L.tWg Y.Wg w → RM Y w w₁ → F w₁ ∧ WgLive L.tWg Y.Wg w₁ := fun h r => by rw [← hty] at h ⊢; exact fr_rely hF2 h r
  have hset : ∀ {w : World} {a : Addr} {v : Value}, a.block = Y.Wg → F w → WgLive L.tWg Y.Wg (w.setCell a v) → F (w.setCell a v) ∧ WgLive L.tWg Y.Wg (w.setCell a v) := fun ha hf hl => ⟨hF2 _ _ (rm_setCell ha _ (by rw [hty]; exact hl)) hf, hl⟩
  obtain ⟨v0, v1, v2, v3, v4, v5, v6, v7, v8, v9, v10, v11, v12, v13, v14, v15, v16, v17, v18, v19, v20, v21, v22, v23, v24, v25, v26, v27, v28, v29, v30, v31, v32, v33, v34, v35, v36, v37, v38, v39, v40, v41, v42, v43, v44, v45, v46, v47, v48, v49, v50, v51, v52, v53, v54, v55, v56, v57, v58, v59, v60, v61, v62, v63, v64, v65, v66, v67, v68, v69, v70, v71, v72, v73, v74, v75, v76, v77, v78, v79, v80, v81, v82, v83, rfl⟩ := array84 T hT84
  simp only [List.getElem?_toArray, List.getElem?_cons_zero, Option.some.injEq] at t0
  subst t0
  refine ⟨30, goes_weaken (D := Go.ConcR.DC0) (fun _ _ h => h) d0_dm (fun _ _ h => h) ?_⟩
  lib_facts
  simp only [L7, body_wait, waitFn, Option.getD_some]
  u_c stepG_block hrl hF
  u_c stepG_seq hrl hF
  u_reg hrl hF
  u_op hrl hF
  u_op hrl hF
  u_op hrl hF
  u_call H.f_uLoad (nm_uLoad L) uLoadFn hrl hF
  u_c stepG_seq hrl hF
  u_reg hrl hF
  u_op hrl hF
  u_c stepG_region_end hrl hF
  u_c stepG_seq hrl hF
  u_reg hrl hF
  u_op hrl hF
  u_op hrl hF
  u_op hrl hF
  refine Goes.stop (fun w₁ h₁ => ?_)
  replace hF := hrl hF h₁
  clear h₁
  refine ⟨rfl, fun v hv hw => ?_⟩
  rw [hty] at hw
  rw [hP]
  rcases Nat.eq_zero_or_pos v with rfl | hvp
  · -- it reads 0
    replace hw : WgAt L.tWg Y.Wg w₁ 0 0 := by simpa using hw
    refine ⟨_, stepG_load_atomic (v := 0) rfl rfl (by k_ne) rfl H.f_loadU64 (x_loadU64_n L) (x_loadU64_b L) (x_loadU64_x L) .u64 (x_loadU64_f L) rfl hw.cellSt, fun _ => ⟨50, goes_weaken (D := Go.ConcR.DC0) (fun _ _ h => h) d0_dm (fun _ _ h => h) ?_⟩, fun h => absurd rfl h⟩
    clear hw
    walk_nrm
    u_op hrl hF
    u_c stepG_region_end hrl hF
    u_c stepG_ret' hrl hF
    u_leave1 H.f_uLoad hrl hF
    u_op hrl hF
    u_c stepG_region_end hrl hF
    u_c stepG_seq hrl hF
    u_reg hrl hF
    u_op hrl hF
    u_op hrl hF
    u_op hrl hF
    u_op hrl hF
    u_c stepG_region_end hrl hF
    u_c stepG_seq hrl hF
    u_reg hrl hF
    u_op hrl hF
    u_op hrl hF
    u_op hrl hF
    u_op hrl hF
    u_c stepG_region_end hrl hF
    u_c stepG_seq hrl hF
    u_c stepG_seq hrl hF
    u_reg hrl hF
    u_op hrl hF
    u_op hrl hF
    u_c stepG_region_end hrl hF
    u_cond true hrl hF
    u_c stepG_seq hrl hF
    u_cond true hrl hF
    u_c stepG_seq hrl hF
    u_reg hrl hF
    refine Goes.stop (fun w₅ h₅ => ?_)
    replace hF := hrl hF h₅
    clear h₅
    refine ⟨rfl, ?_⟩
    rw [hP]
    refine ⟨_, stepG_mark0 .enable (by simp) rfl rfl (by k_ne) rfl H.f_enable (x_enable_n L) (x_enable_b L) (x_enable_x L) (x_enable_f L), 12, goes_weaken (D := Go.ConcR.DC0) (fun _ _ h => h) d0_dm (fun _ _ h => h) ?_⟩
    walk_nrm
    u_c stepG_region_end hrl hF
    u_reg hrl hF
    u_op hrl hF
    u_conv H.underlying_tWgP H.room_tWg (WgLive.cell0 hF.2).choose_spec hrl hF
    refine Goes.stop (fun w₆ h₆ => ?_)
    replace hF := hrl hF h₆
    clear h₆
    refine ⟨rfl, ?_⟩
    rw [hP]
    refine ⟨_, stepG_markAt .acquire (by simp) rfl rfl (by k_ne) rfl H.f_acquire (x_acquire_n L) (x_acquire_b L) (x_acquire_x L) (x_acquire_f L) (by simp [Act.eval, stA]), hT _ _ 30 hF.1 hF.2 ?_⟩
    walk_nrm
    u_c stepG_region_end hrl hF
    u_c stepG_seq hrl hF
    u_c stepG_seq hrl hF
    u_reg hrl hF
    u_op hrl hF
    u_op hrl hF
    u_op hrl hF
    u_op hrl hF
    u_op hrl hF
    u_op hrl hF
    u_op hrl hF
    u_op hrl hF
    u_skip hrl hF
    u_skip hrl hF
    u_op hrl hF
    u_c stepG_region_end hrl hF
    u_cond false hrl hF
    u_c stepG_skip hrl hF
    u_c stepG_ret' hrl hF
    u_leave0 H.f_wait hrl hF
    exact Goes.stop (fun w₇ h₇ => ⟨hacq.symm, hrl hF h₇⟩)
  · -- it reads v * 2^32, v > 0
    obtain ⟨S, hS⟩ : ∃ S : Int, (v : Int) * KK = S := ⟨_, rfl⟩
    have a1 : S / 4294967296 = (v : Int) := by rw [← hS]; simp only [KK]; omega
    have b1 : bits .and .u64 S 2147483648 = 0 := by rw [← hS]; have := st_flag v 0 (by omega) (by omega); simpa [KK] using this
    have b2 : bits .and .u64 S 2147483647 = 0 := by rw [← hS]; have := st_waiters v 0 (by omega) (by omega); simpa [KK] using this
    have c1 : IntKind.i32.wrap (v : Int) = (v : Int) := by rw [IntKind.wrap_i32]; omega
    have w1 : IntKind.u64.wrap (S + 1) = S + 1 := by rw [IntKind.wrap_u64, ← hS]; simp only [KK]; omega
    have q3 : decide ((v : Int) < 0) = false := decide_eq_false (by omega)
    have q4 : decide (0 < (v : Int)) = true := decide_eq_true (by omega)
    have q5 : ((v : Int) == 0) = false := by simp; omega
    have q6 : decide ((v : Int) = 0) = false := decide_eq_false (by omega)
    rw [hS] at hw
    refine ⟨_, stepG_load_atomic (v := S) rfl rfl (by k_ne) rfl H.f_loadU64 (x_loadU64_n L) (x_loadU64_b L) (x_loadU64_x L) .u64 (x_loadU64_f L) rfl hw.cellSt, fun h0 => absurd h0 (by omega), fun _ => ⟨60, goes_weaken (D := Go.ConcR.DC0) (fun _ _ h => h) d0_dm (fun _ _ h => h) ?_⟩⟩
    clear hw
    walk_nrm
    u_op hrl hF
    u_c stepG_region_end hrl hF
    u_c stepG_ret' hrl hF
    u_leave1 H.f_uLoad hrl hF
    u_op hrl hF
    u_c stepG_region_end hrl hF
    u_c stepG_seq hrl hF
    u_reg hrl hF
    u_op hrl hF
    u_op hrl hF
    u_op hrl hF
    u_op hrl hF
    u_c stepG_region_end hrl hF
    u_c stepG_seq hrl hF
    u_reg hrl hF
    u_op hrl hF
    u_op hrl hF
    u_op hrl hF
    u_op hrl hF
    u_c stepG_region_end hrl hF
    u_c stepG_seq hrl hF
    u_c stepG_seq hrl hF
    u_reg hrl hF
    u_op hrl hF
    u_op hrl hF
    u_c stepG_region_end hrl hF
    u_cnd false hrl hF
    u_c stepG_skip hrl hF
    u_c stepG_seq hrl hF
    u_reg hrl hF
    u_op hrl hF
    u_op hrl hF
    u_op hrl hF
    u_op hrl hF
    u_op hrl hF
    u_op hrl hF
    u_call H.f_uCas (nm_uCas L) uCasFn hrl hF
    u_c stepG_seq hrl hF
    u_reg hrl hF
    u_op hrl hF
    u_c stepG_region_end hrl hF
    u_c stepG_seq hrl hF
    u_reg hrl hF
    u_op hrl hF
    u_op hrl hF
    u_op hrl hF
    u_op hrl hF
    u_op hrl hF
    refine Goes.stop (fun w₂ h₂ => ?_)
    replace hF := hrl hF h₂
    clear h₂
    refine ⟨rfl, fun v' hv' hw => ?_⟩
    rw [hty] at hw
    rw [hP]
    refine ⟨fun e => ?_, fun e => ?_⟩
    · -- it hits
      subst e
      rw [hS] at hw ⊢
      refine ⟨_, (stepG_cas_hit (v := S) (n := S + 1) rfl rfl (by k_ne) rfl H.f_casU64 (x_casU64_n L) (x_casU64_b L) (x_casU64_x L) .u64 (x_casU64_f L) rfl rfl rfl hw.cellSt (hw.thaw 0)).trans (by rfl), 20 + 40, goes_bind (R := RM Y) (fun w => RM.refl w) (fun _ _ _ h1 h2 => RM.trans h1 h2) (goes_weaken (D := Go.ConcR.DC0) (fun _ _ h => h) d0_dm (fun _ _ h => h) ?_)⟩
      replace hF := hset (w := w₂) (a := stA Y.Wg) (v := .int .u64 (S + 1)) rfl hF.1 ⟨_, _, hw.setSt _⟩
      clear hw
      walk_nrm
      u_op hrl hF
      u_c stepG_region_end hrl hF
      u_c stepG_ret' hrl hF
      u_leave1 H.f_uCas hrl hF
      u_c stepG_region_end hrl hF
      u_cond true hrl hF
      u_c stepG_seq hrl hF
      u_c stepG_seq hrl hF
      u_reg hrl hF
      u_op hrl hF
      u_op hrl hF
      u_op hrl hF
      u_op hrl hF
      u_c stepG_region_end hrl hF
      u_cond true hrl hF
      u_reg hrl hF
      u_op hrl hF
      u_op hrl hF
      u_op hrl hF
      u_conv H.underlying_tPU32 H.room_tU32 (WgLive.cell1 hF.2).choose_spec hrl hF
      refine Goes.stop (fun w₃ h₃ => ?_)
      replace hF := hrl hF h₃
      clear h₃
      refine Goes.step rfl (fun w₄ h₄ => ?_)
      replace hF := hrl hF h₄
      clear h₄
      rw [stepG_markAt .write (by simp) rfl rfl (by k_ne) rfl H.f_raceWrite (x_raceWrite_n L) (x_raceWrite_b L) (x_raceWrite_x L) (x_raceWrite_f L) (ad := ⟨_, 1, none⟩) (by simp [Act.eval] <;> rfl)]
      simp only [goes_go]
      refine ⟨⟨fun _ _ => rfl, fun ex hex => ?_⟩, goes_weaken (D := Go.ConcR.DC0) (fun _ _ h => h) d0_dm (fun _ _ h => h) ?_⟩
      · rw [Array.mem_singleton] at hex
        subst hex
        exact evM_said Gm (a := ⟨Y.Wg, 1, none⟩) rfl (.inr rfl)
      walk_nrm
      u_c stepG_region_end hrl hF
      u_c stepG_seq hrl hF
      u_reg hrl hF
      u_op hrl hF
      u_c stepG_region_end hrl hF
      u_c stepG_seq hrl hF
      u_c stepG_seq hrl hF
      u_reg hrl hF
      u_op hrl hF
      u_op hrl hF
      u_op hrl hF
      u_op hrl hF
      u_skip hrl hF
      u_op hrl hF
      u_c stepG_region_end hrl hF
      u_cond false hrl hF
      u_c stepG_skip hrl hF
      u_c stepG_seq hrl hF
      u_reg hrl hF
      u_op hrl hF
      u_op hrl hF
      u_op hrl hF
      u_op hrl hF
      refine Goes.stop (fun w₅ h₅ => ?_)
      replace hF := hrl hF h₅
      clear h₅
      refine ⟨rfl, rfl, ?_⟩
      rw [hP, hty]
      refine ⟨fun ⟨st, hw⟩ => stepG_semacquire_wait rfl rfl rfl H.f_semacquire (x_semacquire_n L) (x_semacquire_b L) (x_semacquire_x L) (x_semacquire_f L) (by simp [Act.eval, smA]) hw.cellSm, fun hf => ?_⟩
      refine ⟨_, (stepG_semacquire (n := 1) rfl rfl (by k_ne) rfl H.f_semacquire (x_semacquire_n L) (x_semacquire_b L) (x_semacquire_x L) (x_semacquire_f L) (by simp [Act.eval, smA]) hf.cellSm (by k_ne) (hf.thaw 1)).trans (by rfl), 30, goes_weaken (D := Go.ConcR.DC0) (fun _ _ h => h) d0_dm (fun _ _ h => h) ?_⟩
      replace hF := hset (w := w₅) (a := smA Y.Wg) (v := .int .u32 0) rfl hF.1 ⟨_, _, hf.setSm 0⟩
      clear hf
      walk_nrm
      u_c stepG_region_end hrl hF
      u_c stepG_seq hrl hF
      u_reg hrl hF
      u_op hrl hF
      u_op hrl hF
      u_op hrl hF
      u_call H.f_uLoad (nm_uLoad L) uLoadFn hrl hF
      u_c stepG_seq hrl hF
      u_reg hrl hF
      u_op hrl hF
      u_c stepG_region_end hrl hF
      u_c stepG_seq hrl hF
      u_reg hrl hF
      u_op hrl hF
      u_op hrl hF
      u_op hrl hF
      refine Goes.stop (fun w₆ h₆ => ?_)
      replace hF := hrl hF h₆
      clear h₆
      refine ⟨rfl, ?_⟩
      rw [hP, hty]
      refine fun hw => ⟨_, stepG_load_atomic (v := 0) rfl rfl (by k_ne) rfl H.f_loadU64 (x_loadU64_n L) (x_loadU64_b L) (x_loadU64_x L) .u64 (x_loadU64_f L) rfl hw.cellSt, 30, goes_weaken (D := Go.ConcR.DC0) (fun _ _ h => h) d0_dm (fun _ _ h => h) ?_⟩
      clear hw
      walk_nrm
      u_op hrl hF
      u_c stepG_region_end hrl hF
      u_c stepG_ret' hrl hF
      u_leave1 H.f_uLoad hrl hF
      u_op hrl hF
      u_op hrl hF
      u_c stepG_region_end hrl hF
      u_c stepG_seq hrl hF
      u_cond true hrl hF
      u_c stepG_seq hrl hF
      u_reg hrl hF
      refine Goes.stop (fun w₇ h₇ => ?_)
      replace hF := hrl hF h₇
      clear h₇
      refine ⟨rfl, ?_⟩
      rw [hP]
      refine ⟨_, stepG_mark0 .enable (by simp) rfl rfl (by k_ne) rfl H.f_enable (x_enable_n L) (x_enable_b L) (x_enable_x L) (x_enable_f L), 12, goes_weaken (D := Go.ConcR.DC0) (fun _ _ h => h) d0_dm (fun _ _ h => h) ?_⟩
      walk_nrm
      u_c stepG_region_end hrl hF
      u_reg hrl hF
      u_op hrl hF
      u_conv H.underlying_tWgP H.room_tWg (WgLive.cell0 hF.2).choose_spec hrl hF
      refine Goes.stop (fun w₈ h₈ => ?_)
      replace hF := hrl hF h₈
      clear h₈
      refine ⟨rfl, ?_⟩
      rw [hP]
      refine ⟨_, stepG_markAt .acquire (by simp) rfl rfl (by k_ne) rfl H.f_acquire (x_acquire_n L) (x_acquire_b L) (x_acquire_x L) (x_acquire_f L) (by simp [Act.eval, stA]), hT _ _ 30 hF.1 hF.2 ?_⟩
      walk_nrm
      u_c stepG_region_end hrl hF
      u_c stepG_seq hrl hF
      u_c stepG_seq hrl hF
      u_reg hrl hF
      u_op hrl hF
      u_c stepG_region_end hrl hF
      u_cond false hrl hF
      u_c stepG_skip hrl hF
      u_c stepG_ret' hrl hF
      u_leave0 H.f_wait hrl hF
      exact Goes.stop (fun w₉ h₉ => ⟨hacq.symm, hrl hF h₉⟩)
    · -- it misses
      refine ⟨_, stepG_cas_miss (v := (v' : Int) * KK) (old := S) (n := S + 1) rfl rfl (by k_ne) rfl H.f_casU64 (x_casU64_n L) (x_casU64_b L) (x_casU64_x L) .u64 (x_casU64_f L) rfl rfl rfl hw.cellSt (hw.thaw 0) (by rw [← hS]; simp only [KK]; omega), 20, goes_weaken (D := Go.ConcR.DC0) (fun _ _ h => h) d0_dm (fun _ _ h => h) ?_⟩
      clear hw
      walk_nrm
      u_op hrl hF
      u_c stepG_region_end hrl hF
      u_c stepG_ret' hrl hF
      u_leave1 H.f_uCas hrl hF
      u_c stepG_region_end hrl hF
      u_cond false hrl hF
      u_c stepG_skip hrl hF
      u_c stepG_inBlock hrl hF
      u_c stepG_inLoop hrl hF
      refine Goes.stop (fun w₃ h₃ => ?_)
      replace hF := hrl hF h₃
      rw [← hty] at hF
      exact ⟨_, rfl, by simp, by simp, hF⟩
end
end Go.Proofs.Ytejedbknpjffkaa.Rl
