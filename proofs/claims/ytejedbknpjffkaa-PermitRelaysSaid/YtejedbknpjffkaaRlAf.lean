/- The run of a row's call, from its entry to its return; PermitRelays. (Steps printed by rlwalk.py.) -/
import Derived.Test.YtejedbknpjffkaaRlAe
import Derived.Conc.LeavingOf
namespace Go.Proofs.Ytejedbknpjffkaa.Rl
open Go Go.Conc Go.Conc.Lib Go.RowKit Go.ConcR.Gen
open Go.ConcN (WgLive ShN)

def FinE (P : Program) (Post : Value → World → Prop) (m : Machine) (t : Trace) : Prop :=
  ∃ (gs : Array Goroutine) (a : Goroutine) (w : World) (sl : Option (Nat × Nat)) (q : Nat → Nat) (Sh : Loc → Prop) (B : Nat), m = crowd gs w sl ∧ gs[0]? = some a ∧ Leavers P t gs q ∧ Past Sh B t ∧ Goes P true AtRel (DL Sh B) (AtEnd P Sh B Post) 0 a w

theorem t_end {P : Program} {Post : Value → World → Prop} {Sh : Loc → Prop} {B : Nat} {g : Goroutine} {W : World} {v : Value} (hs : g.status = .running) (h : ∀ w, stepG P true g w = .ended (.done v) w #[]) (hp : ∀ d, Post v (W.at d)) : To P (FinE P Post) Sh B g W := by
  rintro m t ⟨gs, w, sl, q, e, h0, ⟨d, rfl⟩, hL, hP⟩
  refine ⟨0, m, t, rfl, gs, g, W.at d, sl, q, Sh, B, e, h0, hL, hP, fun w₁ h₁ => ?_⟩
  obtain ⟨d', rfl⟩ := h₁
  exact ⟨hs, v, #[], h _, by simp, hp _⟩

theorem runN_of_runNT {P : Program} : ∀ {N : Nat} {m m' : Machine} {t t' : Trace}, runNT P N m t = (.next m', t') → runN P N m = .next m'
  | 0, m, m', t, t', h => by
    simp only [runNT, Prod.mk.injEq] at h
    rw [runN, ← h.1]
  | N + 1, m, m', t, t', h => by
    rcases hs : stepT P m with ⟨x, ops⟩
    cases x with
    | next m1 =>
      rw [runNT_succ_next hs] at h
      rw [runN_succ_next hs]
      exact runN_of_runNT h
    | _ => simp [runNT, hs] at h

theorem run_of_to {P : Program} {Post : Value → World → Prop} {a : Goroutine} {W : World} (h : To P (FinE P Post) (fun _ => False) 0 a W) :
    ∃ M last o w' t', runNT P (M + 1) (solo a W) #[] = (.ended o w', t') ∧ runN P M (solo a W) = .next last ∧ step P last = .ended o w' ∧ Go.Conc.Good P Post last o w' t' := by
  obtain ⟨N, m', t', hr, gs, a', w, sl, q, Sh, B, rfl, h0, hL, hP, hG⟩ := h (solo a W) #[] ⟨#[a], W, none, fun _ => 0, solo_eq_crowd a W, rfl, atRel_refl W, leavers_one P a, past_nil⟩
  obtain ⟨K, last, o, w', t'', h1, h2, h3, h4⟩ := beside_ends (D := DL Sh B) (fun _ _ _ h => h) h0 hL hP hG
  refine ⟨N + K, last, o, w', t'', ?_, ?_, h3, h4⟩
  · rw [Nat.add_assoc, runNT_add, hr]; exact h1
  · rw [runN_add, runN_of_runNT hr]; exact h2

/-- What a row's call leaves: true; the memory that was there, as it was. -/
def PostB (W : World) (v : Value) (W' : World) : Prop := v = .bool true ∧ Below W.heap.size W W'

noncomputable def body5 : Code := Try.f5.body.getD .skip

set_option maxRecDepth 100000 in
set_option maxHeartbeats 4000000 in
theorem relays_to (W : World) (x y : Nat) (hx : x < 256) (hy : y < 256) :
    To Try.prog (FinE Try.prog (PostB W)) (fun _ => False) 0 (G (Frame.enter Try.prog 5 #[.int .u8 x, .int .u8 y] .normal) []) W := by
  have e : Frame.enter Try.prog 5 #[.int .u8 x, .int .u8 y] .normal = (base 5).at ⟨#[.int .u8 x, .int .u8 y, undef, undef, undef, undef, undef, undef, undef, undef, undef, undef, undef, undef, undef, undef, undef, undef, undef, undef, undef, undef, undef], []⟩ [.code body5] := by
    simp [Frame.enter, Frame.at, Try.func5, base, body5, Try.f5]
  rw [e]
  simp only [body5, Try.f5, Option.getD_some]
  refine t_ctl rfl (fun _ => stepG_seq) ?_
  refine t_ctl rfl (fun _ => stepG_region) ?_
  simp only [List.size_toArray, List.length_cons, List.length_nil, Nat.reduceAdd, Nat.zero_add, List.range, List.range.loop]
  refine t_val (.bool false) rfl rfl (by k_ne) (fun _ => by go_simp) (fun _ => by simp [go_sem]) ?_
  walk_nrm
  refine t_ctl rfl (fun _ => stepG_region_end) ?_
  refine t_ctl rfl (fun _ => stepG_seq) ?_
  refine t_ctl rfl (fun _ => stepG_seq) ?_
  refine t_ctl rfl (fun _ => stepG_region) ?_
  simp only [List.size_toArray, List.length_cons, List.length_nil, Nat.reduceAdd, Nat.zero_add, List.range, List.range.loop]
  refine c_works (W := W) (by omega) (fun _ _ h => h) rfl rfl (by k_ne) rfl (by simp) ?_
  intro W₁ hb₁ hs₁
  obtain ⟨n, hn⟩ : ∃ n, n = 1 + x % 8 := ⟨_, rfl⟩
  obtain ⟨k, hk⟩ : ∃ k, k = y % 61 := ⟨_, rfl⟩
  have q1 : ((x : Int)).tmod 8 = ((x % 8 : Nat) : Int) := by rw [Int.tmod_eq_emod_of_nonneg (by omega)]; omega
  have q2 : ((y : Int)).tmod 61 = (k : Int) := by rw [Int.tmod_eq_emod_of_nonneg (by omega)]; omega
  have q3 : IntKind.i64.wrap ((x % 8 : Nat) : Int) = ((x % 8 : Nat) : Int) := by rw [IntKind.wrap_i64]; omega
  have q4 : IntKind.i64.wrap (k : Int) = (k : Int) := by rw [IntKind.wrap_i64]; omega
  have q5 : IntKind.i64.wrap (1 + ((x % 8 : Nat) : Int)) = (n : Int) := by rw [IntKind.wrap_i64]; omega
  have hnk : n * k ≤ 8 * 60 := Nat.mul_le_mul (by omega) (by omega)
  have q6 : IntKind.i64.wrap ((n : Int) * (k : Int)) = ((n * k : Nat) : Int) := by rw [IntKind.wrap_i64, ← Int.natCast_mul]; omega
  have hn1 : 1 ≤ n := by omega
  have hn8 : n ≤ 8 := by omega
  have hk60 : k ≤ 60 := by omega
  obtain ⟨p, hp⟩ : ∃ p : Int, p = ((x % 8 : Nat) : Int) := ⟨_, rfl⟩
  rw [← hp] at q1 q3 q5
  obtain ⟨r, hr⟩ : ∃ r : Int, r = ((n * k : Nat) : Int) := ⟨_, rfl⟩
  rw [← hr] at q6
  clear hn hk hp
  walk_nrm
  refine t_val (.bool false) rfl rfl (by k_ne) (fun _ => by go_simp) (fun _ => by simp [go_sem]) ?_
  walk_nrm
  refine t_ctl rfl (fun _ => stepG_region_end) ?_
  refine t_ctl rfl (fun _ => stepG_cond (t := false) rfl) ?_
  simp only [if_false, Bool.false_eq_true, ↓reduceIte]
  refine t_ctl rfl (fun _ => stepG_skip) ?_
  refine t_ctl rfl (fun _ => stepG_seq) ?_
  refine t_ctl rfl (fun _ => stepG_region) ?_
  simp only [List.size_toArray, List.length_cons, List.length_nil, Nat.reduceAdd, Nat.zero_add, List.range, List.range.loop]
  refine t_val (.int .u8 x) rfl rfl (by k_ne) (fun _ => by go_simp) (fun _ => by simp [go_sem]) ?_
  walk_nrm
  refine t_val (.int .u8 p) rfl rfl (by k_ne) (fun _ => by go_simp) (fun _ => by simp [go_sem, *]) ?_
  walk_nrm
  refine t_val (.int .i64 p) rfl rfl (by k_ne) (fun _ => by go_simp) (fun _ => by simp [go_sem, *]) ?_
  walk_nrm
  refine t_val (.int .i64 n) rfl rfl (by k_ne) (fun _ => by go_simp) (fun _ => by simp [go_sem, *]) ?_
  walk_nrm
  refine t_val (.int .u8 y) rfl rfl (by k_ne) (fun _ => by go_simp) (fun _ => by simp [go_sem]) ?_
  walk_nrm
  refine t_val (.int .u8 k) rfl rfl (by k_ne) (fun _ => by go_simp) (fun _ => by simp [go_sem, *]) ?_
  walk_nrm
  refine t_val (.int .i64 k) rfl rfl (by k_ne) (fun _ => by go_simp) (fun _ => by simp [go_sem, *]) ?_
  walk_nrm
  refine t_val (.int .i64 n) rfl rfl (by k_ne) (fun _ => by go_simp) (fun _ => by simp [go_sem]) ?_
  walk_nrm
  refine t_val (.int .i64 k) rfl rfl (by k_ne) (fun _ => by go_simp) (fun _ => by simp [go_sem]) ?_
  walk_nrm
  refine t_ctl rfl (fun _ => stepG_region_end) ?_
  refine t_ctl rfl (fun _ => stepG_seq) ?_
  refine t_ctl rfl (fun _ => stepG_region) ?_
  simp only [List.size_toArray, List.length_cons, List.length_nil, Nat.reduceAdd, Nat.zero_add, List.range, List.range.loop]
  refine t_val (.int .i64 n) rfl rfl (by k_ne) (fun _ => by go_simp) (fun _ => by simp [go_sem]) ?_
  walk_nrm
  refine t_val (.int .i64 k) rfl rfl (by k_ne) (fun _ => by go_simp) (fun _ => by simp [go_sem]) ?_
  walk_nrm
  refine c_relay (W := W₁) (n := n) (k := k) hn1 (by omega) (by omega) (by omega) (fun a ha => ?_) rfl rfl (by k_ne) rfl (by simp [Act.eval]) ?_
  · rintro (h | ⟨a', e, hb⟩)
    · exact h
    · cases e
      omega
  intro W₂ hb₂ hs₂
  rw [← hr]
  clear hr
  walk_nrm
  refine t_val (.int .i64 n) rfl rfl (by k_ne) (fun _ => by go_simp) (fun _ => by simp [go_sem]) ?_
  walk_nrm
  refine t_val (.int .i64 k) rfl rfl (by k_ne) (fun _ => by go_simp) (fun _ => by simp [go_sem]) ?_
  walk_nrm
  refine t_val (.int .i64 r) rfl rfl (by k_ne) (fun _ => by go_simp) (fun _ => by simp [go_sem, *]) ?_
  walk_nrm
  refine t_val (.bool true) rfl rfl (by k_ne) (fun _ => by go_simp) (fun _ => by simp [go_sem, *]) ?_
  walk_nrm
  refine t_val (.bool true) rfl rfl (by k_ne) (fun _ => by go_simp) (fun _ => by simp [go_sem]) ?_
  walk_nrm
  refine t_ctl rfl (fun _ => stepG_region_end) ?_
  refine t_ctl rfl (fun _ => stepG_ret') ?_
  refine t_end (v := .bool true) rfl (fun w => ?_) (fun d => ⟨rfl, ?_⟩)
  · simp [G, stepG, unwind, doReturn, results, Frame.at, base, Try.func5, Try.f5, seen, GStep.after]
  · have h3 : Below W.heap.size W W₂ := hb₁.trans (hb₂.mono (by omega))
    exact ⟨h3.os, h3.tape, h3.output, h3.size, h3.block⟩
end Go.Proofs.Ytejedbknpjffkaa.Rl
