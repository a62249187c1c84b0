/- The step past a task that is done: its value is appended, the next task is handed out; conditions: the blocks of the thread, the tasks, the values are known. -/
import Derived.Test.YtejedbknpjffkaaD
import Derived.Deep.CutRange
import Derived.Deep.DeepCutAuto
namespace Go.Proofs.Ytejedbknpjffkaa
open Go.RowKit

@[go_sem, simp] theorem cell_setCell_off {w : World} {b i k j : Nat} {v : Value} (h : ¬ i = j) : (w.setCell ⟨b, i, none⟩ v).cell? ⟨k, j, none⟩ = w.cell? ⟨k, j, none⟩ :=
  World.cell?_setCell_other w _ _ _ (by intro e; exact h (congrArg Addr.off e))

theorem info3 : (Try.prog.info? 3).map (fun i => (i.zero, i.size, i.bytes)) = some (some (.int .i64 0), 1, 8) := by kernel_rfl

theorem ch_grown {w w' : World} {row : Option Nat} (h : w.grownBy w' row) : Ch row.toList w w' :=
  ⟨h.os, h.tape, h.output, h.size, fun k hk hm => h.block k hk (fun e => hm (by rw [← e]; simp))⟩

theorem ownsRow_row {w : World} {base : Nat} {e : TypeId} {size : Nat} {v : Value} {n : Nat} {xs : List Value} (h : w.ownsRow base e size v n xs) {g : Nat} (hg : v.ownBlock = some g) : ∃ cur, w.heap[g]? = some (.cells cur e) := by
  rcases h.2 with ⟨rfl, _⟩ | ⟨g', cap, cur, rfl, _, hh, _⟩
  · simp [Value.ownBlock] at hg
  · simp [Value.ownBlock] at hg; subst hg; exact ⟨cur, hh⟩

/-- What is appended to, and made anew, is of another kind than this block. -/
theorem not_own {w : World} {base : Nat} {e t : TypeId} {size : Nat} {v : Value} {n : Nat} {xs : List Value} (h : w.ownsRow base e size v n xs) {p : Nat} {cs : Array Value} (hp : w.heap[p]? = some (.cells cs t)) (hne : t ≠ e) : p ∉ v.ownBlock.toList := by
  intro hm
  have hg : v.ownBlock = some p := by simpa using hm
  obtain ⟨cur, hc⟩ := ownsRow_row h hg
  exact ne_type hp hc hne rfl

/-- What holds between the append of the value and the next task. -/
def OnMid (w : World) (p q bl k B : Nat) (v : Int) (vv : Value) (vals : List Value) (W : World) : Prop :=
  ∃ g cap, ThreadAt W p (some q) (.func (.func 46) #[] #[.pointer (some ⟨bl, 0, none⟩)]) (.slice (some ⟨g, 0, none⟩) (k + 1) cap) ∧ W.ownsRow B 3 1 (.slice (some ⟨g, 0, none⟩) (k + 1) cap) (k + 1) (vals ++ [.int .i64 v]) ∧ Ch (p :: vv.ownBlock.toList) w W ∧ (vv.ownBlock = some g ∨ w.heap.size ≤ g)

theorem ownsRow_setCell {w : World} {base : Nat} {e t : TypeId} {size : Nat} {v : Value} {n : Nat} {xs : List Value} (h : w.ownsRow base e size v n xs) {p i : Nat} {cs : Array Value} (hp : w.heap[p]? = some (.cells cs t)) (hne : t ≠ e) (u : Value) :
    (w.setCell ⟨p, i, none⟩ u).ownsRow base e size v n xs := by
  refine h.kept (row := some p) ⟨rfl, rfl, rfl, by simp, fun k hk hm => Below.heap_setCell _ _ _ _ (fun e => hm (by simp [e]))⟩ ?_
  have := not_own h hp hne
  cases ho : v.ownBlock with
  | none => exact .inl rfl
  | some g => refine .inr ?_; rw [ho] at this; intro e; exact this (by simpa using e.symm)

theorem hnext_val {a : Option Nat} : ∃ x, ptrTo a = .pointer x := ⟨_, rfl⟩

set_option maxRecDepth 100000 in
set_option maxHeartbeats 4000000 in
theorem on_step (w : World) (p q bl k B : Nat) (v : Int) (vv bv : Value) (vals : List Value) (hT : ThreadAt w p (some q) (.func (.func 46) #[] #[.pointer (some ⟨bl, 0, none⟩)]) vv) (hq : TaskAt w q none v bv)
    (hown : w.ownsRow B 3 1 vv k vals) (hk : k < 100) (hB : B ≤ w.heap.size) (nx : Option Nat)
    (hnext : ∀ w2, Ch (p :: vv.ownBlock.toList) w w2 → Calls Try.prog 46 #[.int .i64 ((k : Int) + 1), .pointer (some ⟨bl, 0, none⟩)] w2 fun e w' => e = .returned (ptrTo nx) ∧ w2 = w')
    (hnx : ∀ q', nx = some q' → ∃ r u bv', TaskAt w q' (some r) u bv') :
    Calls Try.prog 49 #[.pointer (some ⟨p, 0, none⟩)] w fun e w' => e = .returned (.tuple #[]) ∧
      ∃ g cap, ThreadAt w' p nx (.func (.func 46) #[] #[.pointer (some ⟨bl, 0, none⟩)]) (.slice (some ⟨g, 0, none⟩) (k + 1) cap) ∧ w'.ownsRow B 3 1 (.slice (some ⟨g, 0, none⟩) (k + 1) cap) (k + 1) (vals ++ [.int .i64 v]) ∧ Ch (p :: vv.ownBlock.toList) w w' ∧ (vv.ownBlock = some g ∨ w.heap.size ≤ g) := by
  have h0 := hT.c0
  have h2 := hT.c2
  have hpl := lt_of_heap hT
  have hpn := not_own hown hT (by decide)
  rw [ptrTo_some] at h0
  have hv := value_any w.drew q none v bv hq
  simp only [Option.isNone_none, if_true] at hv
  obtain ⟨i0, hi, hz0, hz1, hz2⟩ := info_parts info3
  have he : ∀ w, (callFunc 46 #[.int .i64 ((k : Int) + 1), .pointer (some ⟨bl, 0, none⟩)]).run Try.prog w = .ok (.enter 46 #[.int .i64 ((k : Int) + 1), .pointer (some ⟨bl, 0, none⟩)]) w := fun _ => by kernel_rfl
  go_enter Try.func49, Try.ntmps49
  go_wp2_with fail
  refine wp_loop_rounds 2 ?_
  rw [rounds_succ]
  go_wp2_with (go_at_call 67; refine (done_any _ _ _ _ _ hq).mono ?_; rintro e w' ⟨rfl, rfl⟩)
  go_cut [] from 14 to 27 (fun W => OnMid w p q bl k B v vv vals W)
  case first =>
    go_region_law (first
      | (refine step_append_lies _ rfl _ _ 35 rfl B 3 i0 (.int .i64 0) 1 8 Try.underlying35 hi hz0 hz1 hz2 rfl (by decide) vv k vals rfl (hown.alloc _) ⟨w.heap.size, 0, none⟩ 1 1 [.int .i64 v] rfl rfl (World.news_of_block (heap_alloc_new w _)) (by simp [Value.oneCell']) (by omega) (by unfold maxLen; omega) (by omega) (by simp; omega) _ rfl ?_
         intro g cap w1 hown1 hgrow hat hlt
         have hch1 : Ch vv.ownBlock.toList w w1 := (((Ch.refl vv.ownBlock.toList w).alloc _).drew).trans (ch_grown hgrow)
         have hT1 : ThreadAt w1 p _ _ _ := hT.ch hch1 hpn
         have q1 : w1.frozen? ⟨p, 2, none⟩ = false := fz_of hT1
         have q2 := hT1.c2)
      | (go_simp; go_at_call 68; refine hv.mono ?_; rintro e w' ⟨rfl, rfl⟩))
    all_goals
      go_wp2_with fail
      go_meet
      exact ⟨g, cap, st_same hT1 _, ownsRow_setCell hown1 hT1 (by decide) _, (hch1.mono (fun _ h => List.mem_cons_of_mem _ h)).setCell (by simp) _, hat.imp id (fun e => by rw [e]; simp)⟩
  case rest =>
    obtain ⟨g, cap, hT2, hown2, hc2, hg⟩ := hcut
    have c0 := hT2.c0
    rw [ptrTo_some] at c0
    have c1 := hT2.c1
    have c2 := hT2.c2
    have hpW := lt_of_heap hT2
    have z0 : wc.frozen? ⟨p, 0, none⟩ = false := fz_of hT2
    clear h0 h2 hv
    have hfin : ∀ (v0 : Value), v0 = ptrTo nx → ThreadAt ((wc.setCell ⟨p, 0, none⟩ v0).drew) p nx (.func (.func 46) #[] #[.pointer (some ⟨bl, 0, none⟩)]) (.slice (some ⟨g, 0, none⟩) (k + 1) cap) ∧
        ((wc.setCell ⟨p, 0, none⟩ v0).drew).ownsRow B 3 1 (.slice (some ⟨g, 0, none⟩) (k + 1) cap) (k + 1) (vals ++ [.int .i64 v]) ∧ Ch (p :: vv.ownBlock.toList) w ((wc.setCell ⟨p, 0, none⟩ v0).drew) ∧ (vv.ownBlock = some g ∨ w.heap.size ≤ g) := by
      rintro v0 rfl
      exact ⟨st_same hT2 _, ownsRow_setCell hown2 hT2 (by decide) _, (hc2.setCell (by simp) _).drew, hg⟩
    cases nx with
    | none =>
      have hF := hfin (.pointer none) rfl
      clear hfin
      go_wp2_with fail
      go_region_held3 (fun w' => w'.cell? ⟨p, 1, none⟩ = some (.func (.func 46) #[] #[.pointer (some ⟨bl, 0, none⟩)]) ∧ w'.cell? ⟨p, 2, none⟩ = some (.slice (some ⟨g, 0, none⟩) (k + 1) cap)) (go_keep)
        (first | (go_at_call 46; refine (hnext _ hc2.drew).mono ?_; rintro e w' ⟨rfl, rfl⟩; rw [ptrTo_none]))
      obtain ⟨hT3, hR⟩ := hF
      have c3 := hT3.c0
      rw [ptrTo_none] at c3
      revert hT3 hR c3
      generalize (wc.setCell ⟨p, 0, none⟩ (.pointer none)).drew = W
      intro hT3 hR c3
      clear c0 c1 c2 z0
      go_wp2_with fail
      rw [rounds_succ]
      go_wp2
      go_end0
      exact ⟨rfl, g, cap, hT3, hR⟩
    | some q' =>
      have hF := hfin (.pointer (some ⟨q', 0, none⟩)) rfl
      clear hfin
      go_wp2_with fail
      go_region_held3 (fun w' => w'.cell? ⟨p, 1, none⟩ = some (.func (.func 46) #[] #[.pointer (some ⟨bl, 0, none⟩)]) ∧ w'.cell? ⟨p, 2, none⟩ = some (.slice (some ⟨g, 0, none⟩) (k + 1) cap)) (go_keep)
        (first | (go_at_call 46; refine (hnext _ hc2.drew).mono ?_; rintro e w' ⟨rfl, rfl⟩; rw [ptrTo_some]))
      obtain ⟨hT3, hR⟩ := hF
      obtain ⟨r, u, bv', hq'⟩ := hnx q' rfl
      have c3 := hT3.c0
      rw [ptrTo_some] at c3
      have hq3 := hq'.ch hR.2.1 (by
        intro hm
        rcases List.mem_cons.1 hm with e | hm
        · exact ne_type hq' hT (by decide) e
        · exact not_own hown hq' (by decide) hm)
      revert hT3 hR c3 hq3
      generalize (wc.setCell ⟨p, 0, none⟩ (.pointer (some ⟨q', 0, none⟩))).drew = W
      intro hT3 hR c3 hq3
      clear c0 c1 c2 z0
      go_wp2_with fail
      rw [rounds_succ]
      go_wp2_with (go_at_call 67; refine (done_any _ _ _ _ _ hq3).mono ?_; rintro e w' ⟨rfl, rfl⟩)
      go_end0
      exact ⟨rfl, g, cap, hT3, hR⟩
end Go.Proofs.Ytejedbknpjffkaa
