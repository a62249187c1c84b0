/- THE RELAY: the walks through the group's Add and Done, in the relay's company. (Steps printed by rlwalk.py.) -/
import Derived.Test.YtejedbknpjffkaaRlE
namespace Go.Proofs.Ytejedbknpjffkaa.Rl
open Go Go.Conc Go.Conc.Lib Go.RowKit Go.ConcR.Gen
open Go.ConcN (ShN WgLive st_flag st_waiters)
open Go.ConcN.Gen (WgLive.cell0 WgLive.cell1)
open Go.ConcR (KK wgBlock WgAt stA smA rd wr mk)

section
variable {Y : Lay} {L : WgLink} {F : World → Prop} {j : Nat} {Next : Goroutine → World → Prop} {b₀ : Frame} {a₀ : Act} {ops₀ : Array Oper} {i₀ : Nat} {rest₀ : List Nat} {k₀ : List Item} {cs : List Frame} {mT : Nat}

set_option maxRecDepth 100000 in
set_option maxHeartbeats 16000000 in
/-- Add(1), in company. -/
theorem addPos {P : Program} (hP : Y.P = P) (H : WgLib P L) (Gm : Geo Y) (hty : Y.ty = L.tWg) (hF2 : ∀ w w', RM Y w w' → F w → F w')
    (hT : ∀ w, F w → WgLive Y.ty Y.Wg w → Goes P true (RM Y) (DM Y j) (AtGoS Y j Next) mT (G (b₀.at (a₀.put ((ops₀[i₀]?).bind (·.dst)) (.tuple #[])) (.inRegion ops₀ rest₀ :: k₀)) cs) w)
    (w : World) (hF : F w ∧ WgLive Y.ty Y.Wg w) :
    Goes P true (RM Y) (DM Y j) (AtKdS Y j Next) 12
      (G ((base L.add).at ⟨#[.pointer (some ⟨Y.Wg, 0, none⟩), .int .i64 1, undef, undef, undef, undef, undef, undef, undef, undef, undef, undef, undef, undef, undef, undef, undef, undef, undef, undef, undef, undef, undef, undef, undef, undef, undef, undef, undef, undef, undef, undef, undef, undef, undef, undef, undef, undef, undef, undef, undef, undef, undef, undef, undef, undef, undef, undef, undef, undef, undef, undef, undef, undef, undef, undef, undef, undef, undef, undef, undef, undef, undef, undef, undef, undef, undef, undef, undef, undef, undef, undef, undef, undef, undef, undef, undef, undef, undef, undef, undef, undef, undef, undef, undef, undef, undef, undef, undef, undef, undef, undef, undef, undef, undef, undef, undef, undef, undef, undef, undef, undef, undef, undef, undef, undef, undef, undef, undef, undef, undef, undef, undef, undef, undef, undef, undef], []⟩ [.code (body_add L)]) (b₀.at a₀ (.inRegion ops₀ (i₀ :: rest₀) :: k₀) :: cs)) w := by
  rw [hty] at hF hT
  have hrl : ∀ {w w₁ : World}, F w ∧ WgLive L.tWg Y.Wg w → RM Y w w₁ → F w₁ ∧ WgLive L.tWg Y.Wg w₁ := fun h r => by rw [← hty] at h ⊢; exact fr_rely hF2 h r
  have hset : ∀ {w : World} {a : Addr} {v : Value}, a.block = Y.Wg → F w → WgLive L.tWg Y.Wg (w.setCell a v) → F (w.setCell a v) ∧ WgLive L.tWg Y.Wg (w.setCell a v) := fun ha hf hl => ⟨hF2 _ _ (rm_setCell ha _ (by rw [hty]; exact hl)) hf, hl⟩
  refine goes_weaken (D := Go.ConcR.DC0) (fun _ _ h => h) d0_dm (fun _ _ h => h) ?_
  lib_facts
  simp only [body_add, addFn, Option.getD_some]
  u_c stepG_seq hrl hF
  u_cond true hrl hF
  u_c stepG_seq hrl hF
  u_c stepG_seq hrl hF
  u_reg hrl hF
  u_op hrl hF
  u_op hrl hF
  u_c stepG_region_end hrl hF
  u_cond false hrl hF
  u_c stepG_skip hrl hF
  u_c stepG_seq hrl hF
  u_reg hrl hF
  refine Goes.stop (fun w₁ h₁ => ?_)
  replace hF := hrl hF h₁
  clear h₁
  refine ⟨rfl, ?_⟩
  rw [hP]
  refine ⟨_, stepG_mark0 .disable (by simp) rfl rfl (by k_ne) rfl H.f_disable (x_disable_n L) (x_disable_b L) (x_disable_x L) (x_disable_f L), 40, goes_weaken (D := Go.ConcR.DC0) (fun _ _ h => h) d0_dm (fun _ _ h => h) ?_⟩
  walk_nrm
  u_c stepG_region_end hrl hF
  u_reg hrl hF
  u_defer hrl hF
  u_c stepG_region_end hrl hF
  u_c stepG_seq hrl hF
  u_reg hrl hF
  u_op hrl hF
  u_c stepG_region_end hrl hF
  u_c stepG_seq hrl hF
  u_c stepG_seq hrl hF
  u_reg hrl hF
  u_bub hrl hF
  u_c stepG_region_end hrl hF
  u_cond false hrl hF
  u_c stepG_skip hrl hF
  u_c stepG_seq hrl hF
  u_reg hrl hF
  u_op hrl hF
  u_op hrl hF
  u_op hrl hF
  u_op hrl hF
  u_op hrl hF
  u_op hrl hF
  u_call H.f_uAdd (nm_uAdd L) uAddFn hrl hF
  u_c stepG_seq hrl hF
  u_reg hrl hF
  u_op hrl hF
  u_c stepG_region_end hrl hF
  u_c stepG_seq hrl hF
  u_reg hrl hF
  u_op hrl hF
  u_op hrl hF
  u_op hrl hF
  u_op hrl hF
  refine Goes.stop (fun w₂ h₂ => ?_)
  replace hF := hrl hF h₂
  clear h₂
  refine ⟨rfl, fun v hv hw => ?_⟩
  rw [hty] at hw
  rw [hP]
  rcases Nat.eq_zero_or_pos v with rfl | hvp
  · -- the count is now 1
    replace hw : WgAt L.tWg Y.Wg w₂ 0 0 := by simpa using hw
    have z : (((0 : Nat) : Int) + 1) * KK = KK := by simp
    rw [z]
    have e0 : IntKind.u64.wrap (0 + 4294967296) = KK := by decide
    refine ⟨_, (stepG_add_atomic rfl rfl (by k_ne) rfl H.f_addU64 (x_addU64_n L) (x_addU64_b L) (x_addU64_x L) .u64 (x_addU64_f L) rfl rfl hw.cellSt (hw.thaw 0)).trans (by rw [e0]; rfl), 60 + 60, goes_bind (R := RM Y) (fun w => RM.refl w) (fun _ _ _ h1 h2 => RM.trans h1 h2) (goes_weaken (D := Go.ConcR.DC0) (fun _ _ h => h) d0_dm (fun _ _ h => h) ?_)⟩
    replace hF := hset (w := w₂) (a := stA Y.Wg) (v := .int .u64 KK) rfl hF.1 ⟨_, _, hw.setSt _⟩
    clear hw
    simp only [KK] at hF ⊢
    walk_nrm
    u_op hrl hF
    u_c stepG_region_end hrl hF
    u_c stepG_ret' hrl hF
    u_leave1 H.f_uAdd hrl hF
    u_op hrl hF
    u_c stepG_region_end hrl hF
    u_c stepG_seq hrl hF
    u_c stepG_seq hrl hF
    u_reg hrl hF
    u_op hrl hF
    u_op hrl hF
    u_op hrl hF
    u_op hrl hF
    u_skip hrl hF
    u_skip hrl hF
    u_op hrl hF
    u_c stepG_region_end hrl hF
    u_cond false hrl hF
    u_c stepG_skip hrl hF
    u_c stepG_seq hrl hF
    u_reg hrl hF
    u_op hrl hF
    u_op hrl hF
    u_op hrl hF
    u_op hrl hF
    u_c stepG_region_end hrl hF
    u_c stepG_seq hrl hF
    u_reg hrl hF
    u_op hrl hF
    u_op hrl hF
    u_op hrl hF
    u_op hrl hF
    u_c stepG_region_end hrl hF
    u_c stepG_seq hrl hF
    u_c stepG_seq hrl hF
    u_reg hrl hF
    u_op hrl hF
    u_op hrl hF
    u_op hrl hF
    u_op hrl hF
    u_op hrl hF
    u_op hrl hF
    u_op hrl hF
    u_op hrl hF
    u_op hrl hF
    u_op hrl hF
    u_c stepG_region_end hrl hF
    u_cond true hrl hF
    u_reg hrl hF
    u_op hrl hF
    u_op hrl hF
    u_op hrl hF
    u_conv H.underlying_tPU32 H.room_tU32 (WgLive.cell1 hF.2).choose_spec hrl hF
    refine Goes.stop (fun w₃ h₃ => ?_)
    replace hF := hrl hF h₃
    clear h₃
    refine Goes.step rfl (fun w₄ h₄ => ?_)
    replace hF := hrl hF h₄
    clear h₄
    rw [stepG_markAt .read (by simp) rfl rfl (by k_ne) rfl H.f_raceRead (x_raceRead_n L) (x_raceRead_b L) (x_raceRead_x L) (x_raceRead_f L) (ad := ⟨Y.Wg, 1, none⟩) (by simp [Act.eval])]
    simp only [goes_go]
    refine ⟨⟨fun _ _ => rfl, fun ex hex => ?_⟩, goes_weaken (D := Go.ConcR.DC0) (fun _ _ h => h) d0_dm (fun _ _ h => h) ?_⟩
    · rw [Array.mem_singleton] at hex
      subst hex
      exact evM_said Gm (a := ⟨Y.Wg, 1, none⟩) rfl (.inl rfl)
    walk_nrm
    u_c stepG_region_end hrl hF
    u_c stepG_seq hrl hF
    u_c stepG_seq hrl hF
    u_reg hrl hF
    u_op hrl hF
    u_op hrl hF
    u_c stepG_region_end hrl hF
    u_cond false hrl hF
    u_c stepG_skip hrl hF
    u_c stepG_seq hrl hF
    u_c stepG_seq hrl hF
    u_reg hrl hF
    u_op hrl hF
    u_op hrl hF
    u_op hrl hF
    u_skip hrl hF
    u_skip hrl hF
    u_op hrl hF
    u_op hrl hF
    u_skip hrl hF
    u_skip hrl hF
    u_skip hrl hF
    u_skip hrl hF
    u_op hrl hF
    u_c stepG_region_end hrl hF
    u_cond false hrl hF
    u_c stepG_skip hrl hF
    u_c stepG_seq hrl hF
    u_c stepG_seq hrl hF
    u_reg hrl hF
    u_op hrl hF
    u_op hrl hF
    u_op hrl hF
    u_skip hrl hF
    u_skip hrl hF
    u_op hrl hF
    u_c stepG_region_end hrl hF
    u_cond true hrl hF
    u_c stepG_ret' hrl hF
    refine Goes.stop (fun w₅ h₅ => ?_)
    replace hF := hrl hF h₅
    clear h₅
    refine ⟨rfl, ?_⟩
    rw [hP]
    refine ⟨_, stepG_unwind_entry (v := .tuple #[]) (evs := #[mk .enable]) rfl H.f_enable (x_enable_n L) (x_enable_b L) (x_enable_x L) (x_enable_f L) (by simp [Extern.Race.none_]) (by simp [mk]) (by simp [mk]), 1 + mT, goes_bind (R := RM Y) (fun w => RM.refl w) (fun _ _ _ h1 h2 => RM.trans h1 h2) (goes_weaken (D := Go.ConcR.DC0) (fun _ _ h => h) d0_dm (fun _ _ h => h) ?_)⟩
    u_leave0 H.f_add hrl hF
    exact Goes.stop (fun w₆ h₆ => hT _ (hrl hF h₆).1 (hrl hF h₆).2)
  · -- it is more
    obtain ⟨V, hV⟩ : ∃ V : Int, V = (v : Int) + 1 := ⟨_, rfl⟩
    obtain ⟨S, hS⟩ : ∃ S : Int, S = V * KK := ⟨_, rfl⟩
    have eS : IntKind.u64.wrap ((v : Int) * KK + 4294967296) = S := by rw [IntKind.wrap_u64, hS, hV]; simp only [KK]; omega
    rw [← hV, ← hS]
    have a1 : S / 4294967296 = V := by rw [hS]; simp only [KK]; omega
    have b1 : bits .and .u64 S 2147483648 = 0 := by rw [hS, hV]; have := st_flag (v + 1) 0 (by omega) (by omega); simpa [KK] using this
    have b2 : bits .and .u64 S 2147483647 = 0 := by rw [hS, hV]; have := st_waiters (v + 1) 0 (by omega) (by omega); simpa [KK] using this
    have c1 : IntKind.i32.wrap V = V := by rw [IntKind.wrap_i32]; omega
    have hV1 : 1 < V := by omega
    have hV2 : V < 2147483648 := by omega
    have q1 : (V == 1) = false := by simp; omega
    have q2 : decide (V = 1) = false := decide_eq_false (by omega)
    have q3 : decide (V < 0) = false := decide_eq_false (by omega)
    have q4 : decide (0 < V) = true := decide_eq_true (by omega)
    have q5 : (V == 0) = false := by simp; omega
    have q6 : decide (V = 0) = false := decide_eq_false (by omega)
    refine ⟨_, (stepG_add_atomic rfl rfl (by k_ne) rfl H.f_addU64 (x_addU64_n L) (x_addU64_b L) (x_addU64_x L) .u64 (x_addU64_f L) rfl rfl hw.cellSt (hw.thaw 0)).trans (by rw [eS]; rfl), 110, goes_weaken (D := Go.ConcR.DC0) (fun _ _ h => h) d0_dm (fun _ _ h => h) ?_⟩
    replace hF := hset (w := w₂) (a := stA Y.Wg) (v := .int .u64 S) rfl hF.1 ⟨_, _, hw.setSt _⟩
    clear hw hS hV eS
    walk_nrm
    u_op hrl hF
    u_c stepG_region_end hrl hF
    u_c stepG_ret' hrl hF
    u_leave1 H.f_uAdd hrl hF
    u_op hrl hF
    u_c stepG_region_end hrl hF
    u_c stepG_seq hrl hF
    u_c stepG_seq hrl hF
    u_reg hrl hF
    u_op hrl hF
    u_op hrl hF
    u_op hrl hF
    u_op hrl hF
    u_skip hrl hF
    u_skip hrl hF
    u_op hrl hF
    u_c stepG_region_end hrl hF
    u_cnd false hrl hF
    u_c stepG_skip hrl hF
    u_c stepG_seq hrl hF
    u_reg hrl hF
    u_op hrl hF
    u_op hrl hF
    u_op hrl hF
    u_op hrl hF
    u_c stepG_region_end hrl hF
    u_c stepG_seq hrl hF
    u_reg hrl hF
    u_op hrl hF
    u_op hrl hF
    u_op hrl hF
    u_op hrl hF
    u_c stepG_region_end hrl hF
    u_c stepG_seq hrl hF
    u_c stepG_seq hrl hF
    u_reg hrl hF
    u_op hrl hF
    u_op hrl hF
    u_op hrl hF
    u_op hrl hF
    u_op hrl hF
    u_op hrl hF
    u_op hrl hF
    u_op hrl hF
    u_op hrl hF
    u_op hrl hF
    u_c stepG_region_end hrl hF
    u_cnd false hrl hF
    u_c stepG_skip hrl hF
    u_c stepG_seq hrl hF
    u_c stepG_seq hrl hF
    u_reg hrl hF
    u_op hrl hF
    u_op hrl hF
    u_c stepG_region_end hrl hF
    u_cnd false hrl hF
    u_c stepG_skip hrl hF
    u_c stepG_seq hrl hF
    u_c stepG_seq hrl hF
    u_reg hrl hF
    u_op hrl hF
    u_op hrl hF
    u_op hrl hF
    u_skip hrl hF
    u_skip hrl hF
    u_op hrl hF
    u_op hrl hF
    u_skip hrl hF
    u_skip hrl hF
    u_skip hrl hF
    u_skip hrl hF
    u_op hrl hF
    u_c stepG_region_end hrl hF
    u_cnd false hrl hF
    u_c stepG_skip hrl hF
    u_c stepG_seq hrl hF
    u_c stepG_seq hrl hF
    u_reg hrl hF
    u_op hrl hF
    u_op hrl hF
    u_op hrl hF
    u_skip hrl hF
    u_skip hrl hF
    u_op hrl hF
    u_c stepG_region_end hrl hF
    u_cnd true hrl hF
    u_c stepG_ret' hrl hF
    refine Goes.stop (fun w₃ h₃ => ?_)
    replace hF := hrl hF h₃
    clear h₃
    refine ⟨rfl, ?_⟩
    rw [hP]
    refine ⟨_, stepG_unwind_entry (v := .tuple #[]) (evs := #[mk .enable]) rfl H.f_enable (x_enable_n L) (x_enable_b L) (x_enable_x L) (x_enable_f L) (by simp [Extern.Race.none_]) (by simp [mk]) (by simp [mk]), 1 + mT, goes_bind (R := RM Y) (fun w => RM.refl w) (fun _ _ _ h1 h2 => RM.trans h1 h2) (goes_weaken (D := Go.ConcR.DC0) (fun _ _ h => h) d0_dm (fun _ _ h => h) ?_)⟩
    u_leave0 H.f_add hrl hF
    exact Goes.stop (fun w₆ h₆ => hT _ (hrl hF h₆).1 (hrl hF h₆).2)
end
end Go.Proofs.Ytejedbknpjffkaa.Rl
