/- THE RELAY: the walk through the group's Done, a worker's deferred call, in the relay's company. (Steps printed by rlwalk.py.) -/
import Derived.Test.YtejedbknpjffkaaRlD
import Derived.Conc.WgGenDone
namespace Go.Proofs.Ytejedbknpjffkaa.Rl
open Go Go.Conc Go.Conc.Lib Go.RowKit Go.ConcR.Gen
open Go.ConcN (ShN WgLive st_flag st_waiters)
open Go.ConcN.Gen (WgLive.cell0 WgLive.cell1)
open Go.ConcR (KK wgBlock WgAt stA smA rd wr mk)

section
variable {Y : Lay} {L : WgLink} {b₀ : Frame} {a₀ : Act} {ops₀ : Array Oper} {i₀ : Nat} {rest₀ : List Nat} {k₀ : List Item} {cs : List Frame} {qt : Nat}

set_option maxRecDepth 100000 in
set_option maxHeartbeats 16000000 in
/-- Add(-1), in company. -/
theorem addNeg {P : Program} (hP : Y.P = P) (H : WgLib P L) (hty : Y.ty = L.tWg)
    (hT : QuitsD P qt 0 (G (b₀.at (a₀.put ((ops₀[i₀]?).bind (·.dst)) (.tuple #[])) (.inRegion ops₀ rest₀ :: k₀)) cs)) (w : World) (hF : WgLive Y.ty Y.Wg w) :
    Goes P false (RLive Y) Go.ConcR.DC0 (AtR0 Y) 20
      (G ((base L.add).at ⟨#[.pointer (some ⟨Y.Wg, 0, none⟩), .int .i64 (-1), undef, undef, undef, undef, undef, undef, undef, undef, undef, undef, undef, undef, undef, undef, undef, undef, undef, undef, undef, undef, undef, undef, undef, undef, undef, undef, undef, undef, undef, undef, undef, undef, undef, undef, undef, undef, undef, undef, undef, undef, undef, undef, undef, undef, undef, undef, undef, undef, undef, undef, undef, undef, undef, undef, undef, undef, undef, undef, undef, undef, undef, undef, undef, undef, undef, undef, undef, undef, undef, undef, undef, undef, undef, undef, undef, undef, undef, undef, undef, undef, undef, undef, undef, undef, undef, undef, undef, undef, undef, undef, undef, undef, undef, undef, undef, undef, undef, undef, undef, undef, undef, undef, undef, undef, undef, undef, undef, undef, undef, undef, undef, undef, undef, undef, undef], []⟩ [.code (body_add L)]) (b₀.at a₀ (.inRegion ops₀ (i₀ :: rest₀) :: k₀) :: cs)) w := by
  rw [hty] at hF
  have hrl : ∀ {w w₁ : World}, WgLive L.tWg Y.Wg w → RLive Y w w₁ → WgLive L.tWg Y.Wg w₁ := fun h r => by rw [← hty] at h ⊢; exact r h
  lib_facts
  simp only [body_add, addFn, Option.getD_some]
  u_c stepG_seq hrl hF
  u_cond true hrl hF
  u_c stepG_seq hrl hF
  u_c stepG_seq hrl hF
  u_reg hrl hF
  u_op hrl hF
  u_op hrl hF
  u_c stepG_region_end hrl hF
  u_cond true hrl hF
  u_reg hrl hF
  u_op hrl hF
  u_conv H.underlying_tWgP H.room_tWg (WgLive.cell0 hF).choose_spec hrl hF
  refine Goes.stop (fun w₁ h₁ => ?_)
  replace hF := hrl hF h₁
  clear h₁
  refine ⟨rfl, ?_⟩
  rw [hP]
  refine ⟨_, stepG_markAt .releaseMerge (by simp) rfl rfl (by k_ne) rfl H.f_relMerge (x_relMerge_n L) (x_relMerge_b L) (x_relMerge_x L) (x_relMerge_f L) (by simp [Act.eval, stA]), 10, ?_⟩
  walk_nrm
  u_c stepG_region_end hrl hF
  u_c stepG_seq hrl hF
  u_reg hrl hF
  refine Goes.stop (fun w₁ h₁ => ?_)
  replace hF := hrl hF h₁
  clear h₁
  refine ⟨rfl, ?_⟩
  rw [hP]
  refine ⟨_, stepG_mark0 .disable (by simp) rfl rfl (by k_ne) rfl H.f_disable (x_disable_n L) (x_disable_b L) (x_disable_x L) (x_disable_f L), 50, ?_⟩
  walk_nrm
  u_c stepG_region_end hrl hF
  u_reg hrl hF
  u_defer hrl hF
  u_c stepG_region_end hrl hF
  u_c stepG_seq hrl hF
  u_reg hrl hF
  u_op hrl hF
  u_c stepG_region_end hrl hF
  u_c stepG_seq hrl hF
  u_c stepG_seq hrl hF
  u_reg hrl hF
  u_bub hrl hF
  u_c stepG_region_end hrl hF
  u_cond false hrl hF
  u_c stepG_skip hrl hF
  u_c stepG_seq hrl hF
  u_reg hrl hF
  u_op hrl hF
  u_op hrl hF
  u_op hrl hF
  u_op hrl hF
  u_op hrl hF
  u_op hrl hF
  u_call H.f_uAdd (nm_uAdd L) uAddFn hrl hF
  u_c stepG_seq hrl hF
  u_reg hrl hF
  u_op hrl hF
  u_c stepG_region_end hrl hF
  u_c stepG_seq hrl hF
  u_reg hrl hF
  u_op hrl hF
  u_op hrl hF
  u_op hrl hF
  u_op hrl hF
  refine Goes.stop (fun w₁ h₁ => ?_)
  clear h₁ hF
  refine ⟨rfl, fun v wt hwt hv hw => ?_⟩
  rw [hty] at hw
  rw [hP]
  have e0 : IntKind.u64.wrap (KK + 18446744069414584320) = 0 := by decide
  have e1 : IntKind.u64.wrap (KK + 1 + 18446744069414584320) = 1 := by decide
  rcases Nat.eq_zero_or_pos v with rfl | hvp <;> (obtain rfl | rfl : wt = 0 ∨ wt = 1 := by omega)
  · -- nobody is counted any more, nobody waits: it only leaves
    replace hw : WgAt L.tWg Y.Wg w₁ KK 0 := by simpa using hw
    have z : ((0 : Nat) : Int) * KK + ((0 : Nat) : Int) = 0 := by simp
    rw [z]
    refine ⟨_, (stepG_add_atomic rfl rfl (by k_ne) rfl H.f_addU64 (x_addU64_n L) (x_addU64_b L) (x_addU64_x L) .u64 (x_addU64_f L) rfl rfl hw.cellSt (hw.thaw 0)).trans (by rw [e0]; rfl), fun hl => absurd hl.2 (by decide), fun _ => ⟨qt + 89, ?_⟩⟩
    clear hw
    walk_nrm
    q_val (.int .u64 0)
    q_c stepG_region_end
    q_c stepG_ret'
    q_leave1 H.f_uAdd
    q_val (.int .u64 0)
    q_c stepG_region_end
    q_c stepG_seq
    q_c stepG_seq
    q_reg
    q_val (.int .u64 0)
    q_val (.int .u64 0)
    q_val (.bool false)
    q_val (.bool false)
    q_skip
    q_skip
    q_val (.bool false)
    q_c stepG_region_end
    q_cond false
    q_c stepG_skip
    q_c stepG_seq
    q_reg
    q_val (.int .u64 0)
    q_val (.int .u64 0)
    q_val (.int .i32 0)
    q_val (.int .i32 0)
    q_c stepG_region_end
    q_c stepG_seq
    q_reg
    q_val (.int .u64 0)
    q_val (.int .u64 0)
    q_val (.int .u32 0)
    q_val (.int .u32 0)
    q_c stepG_region_end
    q_c stepG_seq
    q_c stepG_seq
    q_reg
    q_val (.bool true)
    q_val (.int .i64 (-1))
    q_val (.bool false)
    q_val (.bool false)
    q_val (.bool false)
    q_skip
    q_skip
    q_skip
    q_skip
    q_val (.bool false)
    q_c stepG_region_end
    q_cond false
    q_c stepG_skip
    q_c stepG_seq
    q_c stepG_seq
    q_reg
    q_val (.int .i32 0)
    q_val (.bool false)
    q_c stepG_region_end
    q_cond false
    q_c stepG_skip
    q_c stepG_seq
    q_c stepG_seq
    q_reg
    q_val (.int .u32 0)
    q_val (.bool false)
    q_val (.bool false)
    q_skip
    q_skip
    q_val (.bool false)
    q_val (.bool false)
    q_skip
    q_skip
    q_skip
    q_skip
    q_val (.bool false)
    q_c stepG_region_end
    q_cond false
    q_c stepG_skip
    q_c stepG_seq
    q_c stepG_seq
    q_reg
    q_val (.int .i32 0)
    q_val (.bool false)
    q_val (.bool false)
    q_val (.int .u32 0)
    q_val (.bool true)
    q_val (.bool true)
    q_c stepG_region_end
    q_cond true
    q_c stepG_ret'
    q_enable
    q_leave0 H.f_add
    exact hT
  · -- the starter waits: the last one
    replace hw : WgAt L.tWg Y.Wg w₁ (KK + 1) 0 := by simpa using hw
    have z : ((0 : Nat) : Int) * KK + ((1 : Nat) : Int) = 1 := by simp
    rw [z]
    refine ⟨_, (stepG_add_atomic rfl rfl (by k_ne) rfl H.f_addU64 (x_addU64_n L) (x_addU64_b L) (x_addU64_x L) .u64 (x_addU64_f L) rfl rfl hw.cellSt (hw.thaw 0)).trans (by rw [e1]; rfl), fun _ => ⟨120, ?_⟩, fun hl => absurd ⟨rfl, rfl⟩ hl⟩
    have hF : WgLive L.tWg Y.Wg (w₁.setCell (stA Y.Wg) (.int .u64 1)) := ⟨_, _, hw.setSt 1⟩
    clear hw
    walk_nrm
    u_op hrl hF
    u_c stepG_region_end hrl hF
    u_c stepG_ret' hrl hF
    u_leave1 H.f_uAdd hrl hF
    u_op hrl hF
    u_c stepG_region_end hrl hF
    u_c stepG_seq hrl hF
    u_c stepG_seq hrl hF
    u_reg hrl hF
    u_op hrl hF
    u_op hrl hF
    u_op hrl hF
    u_op hrl hF
    u_skip hrl hF
    u_skip hrl hF
    u_op hrl hF
    u_c stepG_region_end hrl hF
    u_cond false hrl hF
    u_c stepG_skip hrl hF
    u_c stepG_seq hrl hF
    u_reg hrl hF
    u_op hrl hF
    u_op hrl hF
    u_op hrl hF
    u_op hrl hF
    u_c stepG_region_end hrl hF
    u_c stepG_seq hrl hF
    u_reg hrl hF
    u_op hrl hF
    u_op hrl hF
    u_op hrl hF
    u_op hrl hF
    u_c stepG_region_end hrl hF
    u_c stepG_seq hrl hF
    u_c stepG_seq hrl hF
    u_reg hrl hF
    u_op hrl hF
    u_op hrl hF
    u_op hrl hF
    u_op hrl hF
    u_op hrl hF
    u_skip hrl hF
    u_skip hrl hF
    u_skip hrl hF
    u_skip hrl hF
    u_op hrl hF
    u_c stepG_region_end hrl hF
    u_cond false hrl hF
    u_c stepG_skip hrl hF
    u_c stepG_seq hrl hF
    u_c stepG_seq hrl hF
    u_reg hrl hF
    u_op hrl hF
    u_op hrl hF
    u_c stepG_region_end hrl hF
    u_cond false hrl hF
    u_c stepG_skip hrl hF
    u_c stepG_seq hrl hF
    u_c stepG_seq hrl hF
    u_reg hrl hF
    u_op hrl hF
    u_op hrl hF
    u_op hrl hF
    u_op hrl hF
    u_op hrl hF
    u_op hrl hF
    u_op hrl hF
    u_skip hrl hF
    u_skip hrl hF
    u_skip hrl hF
    u_skip hrl hF
    u_op hrl hF
    u_c stepG_region_end hrl hF
    u_cond false hrl hF
    u_c stepG_skip hrl hF
    u_c stepG_seq hrl hF
    u_c stepG_seq hrl hF
    u_reg hrl hF
    u_op hrl hF
    u_op hrl hF
    u_op hrl hF
    u_op hrl hF
    u_op hrl hF
    u_op hrl hF
    u_c stepG_region_end hrl hF
    u_cond false hrl hF
    u_c stepG_skip hrl hF
    u_c stepG_seq hrl hF
    u_c stepG_seq hrl hF
    u_reg hrl hF
    u_op hrl hF
    u_op hrl hF
    u_op hrl hF
    u_call H.f_uLoad (nm_uLoad L) uLoadFn hrl hF
    u_c stepG_seq hrl hF
    u_reg hrl hF
    u_op hrl hF
    u_c stepG_region_end hrl hF
    u_c stepG_seq hrl hF
    u_reg hrl hF
    u_op hrl hF
    u_op hrl hF
    u_op hrl hF
    refine Goes.stop (fun w₂ h₂ => ?_)
    clear h₂ hF
    refine ⟨rfl, ?_⟩
    rw [hP, hty]
    refine fun hw => ⟨_, stepG_load_atomic rfl rfl (by k_ne) rfl H.f_loadU64 (x_loadU64_n L) (x_loadU64_b L) (x_loadU64_x L) .u64 (x_loadU64_f L) rfl hw.cellSt, 40, ?_⟩
    have hF : WgLive L.tWg Y.Wg w₂ := ⟨_, _, hw⟩
    clear hw
    walk_nrm
    u_op hrl hF
    u_c stepG_region_end hrl hF
    u_c stepG_ret' hrl hF
    u_leave1 H.f_uLoad hrl hF
    u_op hrl hF
    u_op hrl hF
    u_c stepG_region_end hrl hF
    u_cond false hrl hF
    u_c stepG_skip hrl hF
    u_c stepG_seq hrl hF
    u_reg hrl hF
    u_op hrl hF
    u_op hrl hF
    u_op hrl hF
    u_call H.f_uStore (nm_uStore L) uStoreFn hrl hF
    u_reg hrl hF
    u_op hrl hF
    u_op hrl hF
    u_op hrl hF
    u_op hrl hF
    refine Goes.stop (fun w₃ h₃ => ?_)
    clear h₃ hF
    refine ⟨rfl, ?_⟩
    rw [hP, hty]
    refine fun hw => ⟨_, stepG_store_atomic rfl rfl (by k_ne) rfl H.f_storeU64 (x_storeU64_n L) (x_storeU64_b L) (x_storeU64_x L) (x_storeU64_f L) rfl rfl hw.cellSt (hw.thaw 0), 50, ?_⟩
    have hF : WgLive L.tWg Y.Wg (w₃.setCell (stA Y.Wg) (.int .u64 0)) := ⟨_, _, hw.setSt 0⟩
    clear hw
    walk_nrm
    u_c stepG_region_end hrl hF
    u_c stepG_end hrl hF
    u_leave0 H.f_uStore hrl hF
    u_c stepG_region_end hrl hF
    u_c stepG_seq hrl hF
    u_c stepG_seq hrl hF
    u_reg hrl hF
    u_op hrl hF
    u_c stepG_region_end hrl hF
    u_cond false hrl hF
    u_c stepG_skip hrl hF
    u_c stepG_block hrl hF
    u_c stepG_loop hrl hF
    u_c stepG_seq hrl hF
    u_c stepG_seq hrl hF
    u_reg hrl hF
    u_op hrl hF
    u_op hrl hF
    u_c stepG_region_end hrl hF
    u_cond true hrl hF
    u_c stepG_skip hrl hF
    u_c stepG_seq hrl hF
    u_c stepG_block hrl hF
    u_reg hrl hF
    u_op hrl hF
    u_op hrl hF
    u_op hrl hF
    refine Goes.stop (fun w₄ h₄ => ?_)
    clear h₄ hF
    refine ⟨rfl, ?_, ?_⟩
    · rw [hP]; exact mayWake_entry rfl rfl H.f_semrelease (x_semrelease_b L)
    rw [hP, hty]
    refine fun hw => ⟨_, (stepG_semrelease rfl rfl (by k_ne) rfl H.f_semrelease (x_semrelease_n L) (x_semrelease_b L) (x_semrelease_x L) (x_semrelease_f L) (by simp [Act.eval, smA]) hw.cellSm (hw.thaw 1)).trans (by rfl), qt + 19, ?_⟩
    clear hw
    walk_nrm
    q_c stepG_region_end
    q_c stepG_inBlock
    q_reg
    q_val (.int .u32 1)
    q_val (.int .u32 0)
    q_val (.int .u32 0)
    q_c stepG_region_end
    q_c stepG_inLoop
    q_c stepG_seq
    q_c stepG_seq
    q_reg
    q_val (.int .u32 0)
    q_val (.bool false)
    q_c stepG_region_end
    q_cond false
    q_exit
    q_c stepG_end
    q_enable
    q_leave0 H.f_add
    exact hT
  · -- others are counted, nobody waits
    replace hw : WgAt L.tWg Y.Wg w₁ (((v : Nat) + 1) * KK + 0) 0 := by simpa using hw
    have z : ((v : Nat) : Int) * KK + ((0 : Nat) : Int) = (v : Int) * KK + 0 := by simp
    rw [z]
    have hv0 : 0 < v := by omega
    have eS : IntKind.u64.wrap (((v : Nat) + 1) * KK + 0 + 18446744069414584320) = (v : Int) * KK + 0 := by rw [IntKind.wrap_u64]; simp only [KK]; omega
    obtain ⟨S, hS⟩ : ∃ S : Int, S = (v : Int) * KK + 0 := ⟨_, rfl⟩
    rw [← hS] at eS ⊢
    have a1 : S / 4294967296 = (v : Int) := by rw [hS]; simp only [KK]; omega
    have a2 : 0 ≤ S ∧ S < 9223372036854775808 := by rw [hS]; simp only [KK]; omega
    have b1 : bits .and .u64 S 2147483648 = 0 := by rw [hS]; have := st_flag v 0 (by omega) (by omega); simpa [KK] using this
    have b2 : bits .and .u64 S 2147483647 = 0 := by rw [hS]; have := st_waiters v 0 (by omega) (by omega); simpa [KK] using this
    clear hS z
    refine ⟨_, (stepG_add_atomic rfl rfl (by k_ne) rfl H.f_addU64 (x_addU64_n L) (x_addU64_b L) (x_addU64_x L) .u64 (x_addU64_f L) rfl rfl hw.cellSt (hw.thaw 0)).trans (by rw [eS]; rfl), fun hl => absurd hl.1 (by omega), fun _ => ⟨qt + 89, ?_⟩⟩
    clear hw
    walk_nrm
    q_vn (.int .u64 S)
    q_c stepG_region_end
    q_c stepG_ret'
    q_leave1 H.f_uAdd
    q_vn (.int .u64 S)
    q_c stepG_region_end
    q_c stepG_seq
    q_c stepG_seq
    q_reg
    q_vn (.int .u64 S)
    q_vn (.int .u64 0)
    q_vn (.bool false)
    q_vn (.bool false)
    q_skip
    q_skip
    q_vn (.bool false)
    q_c stepG_region_end
    q_cond false
    q_c stepG_skip
    q_c stepG_seq
    q_reg
    q_vn (.int .u64 S)
    q_vn (.int .u64 (v : Int))
    q_vn (.int .i32 (v : Int))
    q_vn (.int .i32 (v : Int))
    q_c stepG_region_end
    q_c stepG_seq
    q_reg
    q_vn (.int .u64 S)
    q_vn (.int .u64 0)
    q_vn (.int .u32 0)
    q_vn (.int .u32 0)
    q_c stepG_region_end
    q_c stepG_seq
    q_c stepG_seq
    q_reg
    q_vn (.bool true)
    q_vn (.int .i64 (-1))
    q_vn (.bool false)
    q_vn (.bool false)
    q_vn (.bool false)
    q_skip
    q_skip
    q_skip
    q_skip
    q_vn (.bool false)
    q_c stepG_region_end
    q_cond false
    q_c stepG_skip
    q_c stepG_seq
    q_c stepG_seq
    q_reg
    q_vn (.int .i32 (v : Int))
    q_vn (.bool false)
    q_c stepG_region_end
    q_cond false
    q_c stepG_skip
    q_c stepG_seq
    q_c stepG_seq
    q_reg
    q_vn (.int .u32 0)
    q_vn (.bool false)
    q_vn (.bool false)
    q_skip
    q_skip
    q_vn (.bool false)
    q_vn (.bool false)
    q_skip
    q_skip
    q_skip
    q_skip
    q_vn (.bool false)
    q_c stepG_region_end
    q_cond false
    q_c stepG_skip
    q_c stepG_seq
    q_c stepG_seq
    q_reg
    q_vn (.int .i32 (v : Int))
    q_vn (.bool true)
    q_vn (.bool true)
    q_skip
    q_skip
    q_vn (.bool true)
    q_c stepG_region_end
    q_cond true
    q_c stepG_ret'
    q_enable
    q_leave0 H.f_add
    exact hT
  · -- others are counted, the starter waits
    replace hw : WgAt L.tWg Y.Wg w₁ (((v : Nat) + 1) * KK + 1) 0 := by simpa using hw
    have z : ((v : Nat) : Int) * KK + ((1 : Nat) : Int) = (v : Int) * KK + 1 := by simp
    rw [z]
    have hv0 : 0 < v := by omega
    have eS : IntKind.u64.wrap (((v : Nat) + 1) * KK + 1 + 18446744069414584320) = (v : Int) * KK + 1 := by rw [IntKind.wrap_u64]; simp only [KK]; omega
    obtain ⟨S, hS⟩ : ∃ S : Int, S = (v : Int) * KK + 1 := ⟨_, rfl⟩
    rw [← hS] at eS ⊢
    have a1 : S / 4294967296 = (v : Int) := by rw [hS]; simp only [KK]; omega
    have a2 : 0 ≤ S ∧ S < 9223372036854775808 := by rw [hS]; simp only [KK]; omega
    have b1 : bits .and .u64 S 2147483648 = 0 := by rw [hS]; have := st_flag v 1 (by omega) (by omega); simpa [KK] using this
    have b2 : bits .and .u64 S 2147483647 = 1 := by rw [hS]; have := st_waiters v 1 (by omega) (by omega); simpa [KK] using this
    clear hS z
    refine ⟨_, (stepG_add_atomic rfl rfl (by k_ne) rfl H.f_addU64 (x_addU64_n L) (x_addU64_b L) (x_addU64_x L) .u64 (x_addU64_f L) rfl rfl hw.cellSt (hw.thaw 0)).trans (by rw [eS]; rfl), fun hl => absurd hl.1 (by omega), fun _ => ⟨qt + 89, ?_⟩⟩
    clear hw
    walk_nrm
    q_vn (.int .u64 S)
    q_c stepG_region_end
    q_c stepG_ret'
    q_leave1 H.f_uAdd
    q_vn (.int .u64 S)
    q_c stepG_region_end
    q_c stepG_seq
    q_c stepG_seq
    q_reg
    q_vn (.int .u64 S)
    q_vn (.int .u64 0)
    q_vn (.bool false)
    q_vn (.bool false)
    q_skip
    q_skip
    q_vn (.bool false)
    q_c stepG_region_end
    q_cond false
    q_c stepG_skip
    q_c stepG_seq
    q_reg
    q_vn (.int .u64 S)
    q_vn (.int .u64 (v : Int))
    q_vn (.int .i32 (v : Int))
    q_vn (.int .i32 (v : Int))
    q_c stepG_region_end
    q_c stepG_seq
    q_reg
    q_vn (.int .u64 S)
    q_vn (.int .u64 1)
    q_vn (.int .u32 1)
    q_vn (.int .u32 1)
    q_c stepG_region_end
    q_c stepG_seq
    q_c stepG_seq
    q_reg
    q_vn (.bool true)
    q_vn (.int .i64 (-1))
    q_vn (.bool false)
    q_vn (.bool false)
    q_vn (.bool false)
    q_skip
    q_skip
    q_skip
    q_skip
    q_vn (.bool false)
    q_c stepG_region_end
    q_cond false
    q_c stepG_skip
    q_c stepG_seq
    q_c stepG_seq
    q_reg
    q_vn (.int .i32 (v : Int))
    q_vn (.bool false)
    q_c stepG_region_end
    q_cond false
    q_c stepG_skip
    q_c stepG_seq
    q_c stepG_seq
    q_reg
    q_vn (.int .u32 1)
    q_vn (.bool true)
    q_vn (.bool true)
    q_vn (.int .i64 (-1))
    q_vn (.bool false)
    q_vn (.bool false)
    q_vn (.bool false)
    q_skip
    q_skip
    q_skip
    q_skip
    q_vn (.bool false)
    q_c stepG_region_end
    q_cond false
    q_c stepG_skip
    q_c stepG_seq
    q_c stepG_seq
    q_reg
    q_vn (.int .i32 (v : Int))
    q_vn (.bool true)
    q_vn (.bool true)
    q_skip
    q_skip
    q_vn (.bool true)
    q_c stepG_region_end
    q_cond true
    q_c stepG_ret'
    q_enable
    q_leave0 H.f_add
    exact hT

set_option maxRecDepth 100000 in
/-- Done, a worker's deferred call: c: its frame, on its way out. -/
theorem doneW {P : Program} (hP : Y.P = P) (H : WgLib P L) (hty : Y.ty = L.tWg) {c : Frame}
    (hcm : c.mode = .returning) (hT : QuitsD P qt 0 (G c cs)) (w : World) (hF : WgLive Y.ty Y.Wg w) :
    Goes P false (RLive Y) Go.ConcR.DC0 (AtR0 Y) 23 (G ((baseD L.done).at ⟨#[.pointer (some ⟨Y.Wg, 0, none⟩), undef, undef, undef], []⟩ [.code (body_done L)]) (c :: cs)) w := by
  have hrl : ∀ {w w₁ : World}, WgLive Y.ty Y.Wg w → RLive Y w w₁ → WgLive Y.ty Y.Wg w₁ := fun h r => r h
  lib_facts
  have hA := @addNeg Y L
  simp only [body_done, body_add, doneFn, addFn, Option.getD_some] at hA ⊢
  u_reg hrl hF
  u_op hrl hF
  u_in hrl hF
  refine goes_call rfl rfl (by k_ne) rfl H.f_add (nm_add L) rfl ⟨by u_nil, ?_⟩
  walk_nrmf addFn
  refine hA (qt := qt + 3) hP H hty ?_ _ hF
  q_c stepG_region_end
  q_c stepG_end
  exact QuitsD.leaveD rfl rfl H.f_done rfl hcm hT
end
end Go.Proofs.Ytejedbknpjffkaa.Rl
