/- THE RELAY: a worker's walk: its rounds. (Steps printed by rlwalk.py.) -/
import Derived.Test.YtejedbknpjffkaaRlB
namespace Go.Proofs.Ytejedbknpjffkaa.Rl
open Go Go.Conc Go.Conc.Lib Go.RowKit Go.ConcR.Gen
open Go.ConcN (WgLive)

theorem lay_P {N n k m0 B : Nat} {Sh : Loc → Prop} : (lay N n k m0 Sh B).P = Try.prog := rfl

section
variable {N n k m0 t x B r i : Nat} {Sh : Loc → Prop}
section
variable (hB : N + 7 + n + n ≤ B) (ht : t < n) (hn : n < 2147483648) (hi : i < k) (hk : k < 9223372036854775807)
  (IH : ∀ (j8 j9 j10 j11 j12 j13 j14 j15 j16 j17 j18 j19 j20 : Value) (w : World), CK N n k t w → Cont (lay N n k m0 Sh B) t r (head60 N n k t (i + 1) j8 j9 j10 j11 j12 j13 j14 j15 j16 j17 j18 j19 j20) w)
include hB ht hn hi hk IH

set_option maxRecDepth 100000 in
set_option maxHeartbeats 1000000 in
/-- One round more. -/
theorem work_succ (hx2 : n * k < 9223372036854775807) (j8 j9 j10 j11 j12 j13 j14 j15 j16 j17 j18 j19 j20 : Value) (w : World) (hF : CK N n k t w) : Cont (lay N n k m0 Sh B) t (r + 1) (head60 N n k t i j8 j9 j10 j11 j12 j13 j14 j15 j16 j17 j18 j19 j20) w := by
  have T : Terms (RWk (lay N n k m0 Sh B) t) (DWk (lay N n k m0 Sh B) t) := tw
  have hrl : ∀ a b, CK N n k t a → RWk (lay N n k m0 Sh B) t a b → CK N n k t b := fun _ _ h r => h.rely r
  have q : decide ((i : Int) < (k : Int)) = true := decide_eq_true (by omega)
  have hdrawn := fun x => work_drawn (x := x) (r := r) (m0 := m0) (Sh := Sh) hB ht hn hi hk IH
  refine ⟨0 + 66 + 13, ?_⟩
  rw [lay_P]
  unfold head60
  simp only [L60, body60, Try.f60, Option.getD_some]
  refine gw_ctl T rfl (fun _ => stepG_seq) ?_
  refine gw_ctl T rfl (fun _ => stepG_region) ?_
  simp only [List.size_toArray, List.length_cons, List.length_nil, Nat.reduceAdd, Nat.zero_add, List.range, List.range.loop]
  refine gw_val T (.bool true) rfl rfl (by k_ne) (fun _ => by go_simp) (fun _ => by simp [go_sem, *]) ?_
  walk_nrm
  refine gw_ctl T rfl (fun _ => stepG_region_end) ?_
  refine gw_ctl T rfl (fun _ => stepG_seq) ?_
  refine gw_ctl T rfl (fun _ => stepG_cond (t := true) rfl) ?_
  simp only [if_true]
  refine gw_ctl T rfl (fun _ => stepG_skip) ?_
  refine gw_ctl T rfl (fun _ => stepG_seq) ?_
  refine gw_ctl T rfl (fun _ => stepG_block) ?_
  refine gw_ctl T rfl (fun _ => stepG_seq) ?_
  refine gw_ctl T rfl (fun _ => stepG_region) ?_
  simp only [List.size_toArray, List.length_cons, List.length_nil, Nat.reduceAdd, Nat.zero_add, List.range, List.range.loop]
  refine gw_ld T hrl hF (.pointer (some ⟨N + 3, 0, none⟩)) rfl rfl (by k_ne) (fun w hF => by have hc := hF.pb; go_simp) (fun w hF => (fun h => dr1 (a := ⟨N + 4 + n, 0, none⟩) hB ht (by simp [lay]) h) (fun e he => by have hc := hF.pb; have hm := mem_listed he; simp [go_sem, hc] at hm; exact hm)) ?_
  walk_nrm
  refine gw_ld T hrl hF (.int .i64 t) rfl rfl (by k_ne) (fun w hF => by have hc := hF.tb; go_simp) (fun w hF => (fun h => dr1 (a := ⟨N + 7 + n + t, 0, none⟩) hB ht (by simp [lay]) h) (fun e he => by have hc := hF.tb; have hm := mem_listed he; simp [go_sem, hc] at hm; exact hm)) ?_
  walk_nrm
  refine g_block (n := 0) T (F := CK N n k t) hrl hF (fun w h => h.str) (fun w h => h.row _ ht)
    (fun w h es he => dr hB ht fun e hm => (he e hm).elim (fun e => ⟨⟨N + 3, 0, none⟩, by simp [lay], e⟩) (fun e => ⟨⟨N + 2, t, none⟩, by simp [lay], e⟩)) ht rfl rfl (by k_ne) rfl rfl rfl ?_
  intro g w₁ hst hrun hcome hr
  have hF1 := hF.rely hr
  refine ⟨hrun, g, hst w₁, fun w₂ h₂ x hx hsm => ?_⟩
  have hF2 : CKH N n k t x w₂ := ⟨hF1.rely h₂, hsm⟩
  clear hF hF1 hr hst h₂ hsm
  have T : Terms (RH (lay N n k m0 Sh B) t) (DHk (lay N n k m0 Sh B) t) := th
  have hrl : ∀ a b, CKH N n k t x a → RH (lay N n k m0 Sh B) t a b → CKH N n k t x b := fun _ _ h r => h.rely r
  have hx' : x < n * k := hx
  have q : IntKind.i64.wrap ((x : Int) + 1) = (x : Int) + 1 := by rw [IntKind.wrap_i64]; omega
  have hF := hF2
  clear hF2
  refine ⟨88 + 7 + 7, ?_⟩
  refine hcome th ?_
  walk_nrm
  refine gw_ctl T rfl (fun _ => stepG_region_end) ?_
  refine gw_ctl T rfl (fun _ => stepG_seq) ?_
  refine gw_ctl T rfl (fun _ => stepG_region) ?_
  simp only [List.size_toArray, List.length_cons, List.length_nil, Nat.reduceAdd, Nat.zero_add, List.range, List.range.loop]
  refine gw_ld T hrl hF (.int .i64 x) rfl rfl (by k_ne) (fun w hF => by have hc := (cell_of (i := 0) hF.sm.choose_spec rfl); go_simp) (fun w hF => (fun h => dhs hB h) (fun e he => by have hc := (cell_of (i := 0) hF.sm.choose_spec rfl); have hm := mem_listed he; simp [go_sem, hc] at hm; exact hm)) ?_
  walk_nrm
  refine gw_val T (.int .i64 ((x : Int) + 1)) rfl rfl (by k_ne) (fun _ => by go_simp) (fun _ => by simp [go_sem, *]) ?_
  walk_nrm
  refine gw_st (F := CKH N n k t x) hrl hF (f := fun w => w.setCell ⟨N + 5 + n, 0, none⟩ (.int .i64 ((x : Int) + 1))) rfl rfl (by k_ne)
    (fun w hF => by have hc := cell_of (i := 0) hF.sm.choose_spec rfl; have hz := fz_of (i := 0) hF.sm.choose_spec; go_simp)
    (fun w hF => ⟨aside_setCell w ⟨N + 5 + n, 0, none⟩ _, fun e he => by
      have hc := cell_of (i := 0) hF.sm.choose_spec rfl
      have hm := mem_listed he
      simp [go_sem, hc] at hm
      rw [hm.2]
      exact evs hB true⟩) ?_
  intro w₃ h₃ hF3
  have hF4 : CKH N n k t (x + 1) (w₃.setCell ⟨N + 5 + n, 0, none⟩ (.int .i64 ((x : Int) + 1))) := by
    obtain ⟨T, hT⟩ := hF3.sm
    refine ⟨hF3.toCK.rely (m0 := m0) (Sh := Sh) (B := B) ⟨fun b hb => Below.heap_setCell _ _ _ _ ?_, fun h => ?_⟩, T, ?_⟩
    · simp only [lay] at hb
      show b ≠ N + 5 + n
      omega
    · exact live_of_block (L := lay N n k m0 Sh B) (Below.heap_setCell _ _ _ _ (by simp [lay])) h
    · rw [st_same hT]
      simp
  clear hF3 hF h₃
  have hF := hF4
  clear hF4
  generalize w₃.setCell ⟨N + 5 + n, 0, none⟩ (.int .i64 ((x : Int) + 1)) = w₄ at hF ⊢
  walk_nrm
  refine gw_ctl T rfl (fun _ => stepG_region_end) ?_
  have hrl : ∀ a b, CKH N n k t (x + 1) a → RH (lay N n k m0 Sh B) t a b → CKH N n k t (x + 1) b := fun _ _ h r => h.rely r
  refine gw_draw hrl hF (fun w => ⟨⟨rfl, rfl, rfl, rfl, fun _ _ => rfl⟩, by simp⟩) (fun w h => ⟨⟨h.thr, h.rnd, h.row, h.str, h.pb, h.tb, h.live⟩, h.sm⟩) (fun w q hF => ?_)
  exact hdrawn x _ _ _ _ _ _ _ _ _ _ _ _ _ w hF q

end

/-- THE WORKER, from its loop's head on. -/
theorem work (hB : N + 7 + n + n ≤ B) (ht : t < n) (hn : n < 2147483648) (hk : k < 9223372036854775807) (hx2 : n * k < 9223372036854775807) :
    ∀ (r i : Nat), i + r = k → ∀ (j8 j9 j10 j11 j12 j13 j14 j15 j16 j17 j18 j19 j20 : Value) (w : World), CK N n k t w → Cont (lay N n k m0 Sh B) t r (head60 N n k t i j8 j9 j10 j11 j12 j13 j14 j15 j16 j17 j18 j19 j20) w
  | 0, i, e, j8, j9, j10, j11, j12, j13, j14, j15, j16, j17, j18, j19, j20, w, hF => by
    obtain rfl : i = k := by omega
    exact work_end w hF ..
  | r + 1, i, e, j8, j9, j10, j11, j12, j13, j14, j15, j16, j17, j18, j19, j20, w, hF => work_succ hB ht hn (by omega) hk (work hB ht hn hk hx2 r (i + 1) (by omega)) hx2 j8 j9 j10 j11 j12 j13 j14 j15 j16 j17 j18 j19 j20 w hF
end
end Go.Proofs.Ytejedbknpjffkaa.Rl
