/- Able: the numbers of the threads that can take a step; conditions: how many threads there are, and what is asked of each, is known. -/
import Derived.Test.YtejedbknpjffkaaH
namespace Go.Proofs.Ytejedbknpjffkaa
open Go.RowKit Go.Shelf

attribute [local go_sem] Oper.semAt_some

/-- A row of numbers of its own, and nothing that lay has turned. -/
def RowOut (w : World) (ys : List Nat) (e : Ending) (w' : World) : Prop :=
  ∃ v, e = .returned v ∧ w'.ownsRow w.heap.size 3 1 v ys.length (ys.map fun x : Nat => Value.int .i64 x) ∧ (v = .slice none 0 0 ↔ ys = []) ∧ Ch [] w w'

set_option maxRecDepth 100000 in
set_option maxHeartbeats 2000000 in
theorem appendSeq_in (b1 b2 n₀ N : Nat) (Sp : List Nat → Prop) (ys : List Nat) (w : World) (hN : N ≤ 1000) (hn₀ : n₀ ≤ w.heap.size) (hseq : SeqStopsK Fence.wide 4 Try.prog 89 #[.pointer (some ⟨b1, 0, none⟩), .pointer (some ⟨b2, 0, none⟩)] (fun x : Nat => #[Value.int .i64 (x : Nat)]) (Below n₀) (fun xs => xs = ys) Sp N w) :
    CallsIn Fence.wide 5 Try.prog 90 #[.slice none 0 0, .func (.func 89) #[] #[.pointer (some ⟨b1, 0, none⟩), .pointer (some ⟨b2, 0, none⟩)]] w (RowOut w ys) := by
  obtain ⟨i0, hi, hz0, hz1, hz2⟩ := info_parts info3
  refine callsIn_of_wp_marks Try.func90 rfl trivial ?_ rfl
  simp only [Try.ntmps90, List.size_toArray, List.length_cons, List.length_nil, Nat.reduceAdd, Nat.reduceSub, Array.replicate_succ, Array.replicate_zero, List.push_toArray, List.append_toArray, List.nil_append, List.cons_append]
  gi_wp2
  have bO := Boxed.new w 35 (.slice none 0 0)
  have hB0 : Below w.heap.size w (w.alloc (.cells #[.slice none 0 0] 35)) := ((Below.refl _ w).alloc (Nat.le_refl _) _)
  refine wpIn_rangeFunc_ownG (n := 5) rfl (by omega) (gf := 89) (lb := #[.pointer (some ⟨b1, 0, none⟩), .pointer (some ⟨b2, 0, none⟩)]) rfl trivial (enters_of Try.func89 (by kernel_rfl) rfl)
    hseq belowK_t (belowK_b (by simp; omega)) (hB0.mono (Nat.le_refl _)) (fun _ => rfl)
    (fun pre W => (∃ v, Boxed W w.heap.size 35 v ∧ W.ownsRow w.heap.size 3 1 v pre.length (pre.map fun x : Nat => Value.int .i64 x) ∧ (v = .slice none 0 0 ↔ pre = [])) ∧ Below w.heap.size w W)
    (fun _ _ _ => False)
    (OwnFrom.and (Own.from (holdsRow_own w.heap.size w.heap.size 35 3 1 (fun pre => pre.length) (fun pre => pre.map fun x : Nat => Value.int .i64 x) (fun pre v => v = .slice none 0 0 ↔ pre = [])) _) (ownFrom_below (Nat.le_refl _) (by simp)))
    (fun _ _ _ _ _ hs _ _ => hs)
    ⟨⟨_, bO, World.ownsRow_nil _ _ _ _, by simp⟩, hB0⟩
    (fun x => { tmps := #[.slice none 0 0, .func (.func 89) #[] #[.pointer (some ⟨b1, 0, none⟩), .pointer (some ⟨b2, 0, none⟩)], .pointer (some ⟨w.heap.size, 0, none⟩), undef, .slice none 0 0, .int .i64 (x : Nat), .func (.func 89) #[] #[.pointer (some ⟨b1, 0, none⟩), .pointer (some ⟨b2, 0, none⟩)], .int .i64 (x : Nat), undef, undef, undef, undef, undef], defers := [] }) ?assign ?body ?done ?stop
  case assign =>
    intro l x W K hK
    gi_wp2
    exact hK
  case body =>
    rintro l pre x W ⟨⟨v, hv, hrow, hnil⟩, hB⟩ hlt
    have hc := hv.cell
    gi_wp2_with (gi_at_builtin; refine wpListIn_append_own _ rfl _ _ 35 rfl w.heap.size 3 i0 (.int .i64 0) 1 8 Try.underlying35 hi hz0 hz1 hz2 rfl (by decide) _ _ _ rfl (hrow.alloc _) ⟨W.heap.size, 0, none⟩ 1 1 [.int .i64 x] rfl rfl (cell_one_new _ _ _) (by simp [Value.oneCell']) (by unfold maxLen; omega) (by omega) (by have := hB.size; simp; omega) ?_; intro v' w1 hown' hgrow _; obtain ⟨g', cap', rfl⟩ := ownsRow_succ hown'; obtain ⟨hv1, hv2, hr2, hk2, hb2⟩ := hv.appended (by decide) hrow hB.size (Nat.le_refl _) hown' hgrow; have hc1 := hv1.cell; have hf1 := hv1.frozen)
    exact ⟨hk2.from _, hb2.mono hn₀, ⟨_, hv2, by simpa using hr2, by simp⟩, hB.trans hb2⟩
  case done =>
    rintro D xs W hD rfl ⟨⟨v, hv, hrow, hnil⟩, hB⟩ hK
    have hc := hv.cell
    gi_wp2
    refine ⟨by simp, .inl ⟨_, _, rfl, run_takeDeferred hK, ?_⟩⟩
    exact ⟨_, results_tmp rfl _ _ _, v, rfl, ownsRow_putObj hrow _ hK rfl, hnil, Ch.ofBelow (hB.trans (belowK_b (w := w) (Nat.le_refl _) W D _ _ (by simp at hD; omega) hK rfl rfl)) (Nat.le_refl _)⟩
  case stop =>
    rintro D c pre W _ _ h _
    exact h.elim

set_option maxRecDepth 100000 in
theorem collect_in (b1 b2 n₀ N : Nat) (Sp : List Nat → Prop) (ys : List Nat) (w : World) (hN : N ≤ 1000) (hn₀ : n₀ ≤ w.heap.size) (hseq : SeqStopsK Fence.wide 4 Try.prog 89 #[.pointer (some ⟨b1, 0, none⟩), .pointer (some ⟨b2, 0, none⟩)] (fun x : Nat => #[Value.int .i64 (x : Nat)]) (Below n₀) (fun xs => xs = ys) Sp N w) :
    Calls Try.prog 55 #[.func (.func 89) #[] #[.pointer (some ⟨b1, 0, none⟩), .pointer (some ⟨b2, 0, none⟩)]] w (RowOut w ys) := by
  have H := hidh (callsIn_wide.1 (appendSeq_in b1 b2 n₀ N Sp ys w hN hn₀ hseq))
  clear hseq
  go_enter Try.func55, Try.ntmps55
  go_wp2_with (go_at_call 90; refine H.out.mono ?_; rintro e w' ⟨v, rfl, hr, hnil, hch⟩)
  go_ret
  exact ⟨v, rfl, hr, hnil, hch⟩

theorem able_1 (bm pm t : Nat) (d : Bool) (w : World) (hm : Box w bm 27 (.pointer (some ⟨pm, 0, none⟩))) (h : Calls Try.prog 57 #[.pointer (some ⟨pm, 0, none⟩), .agg #[.int .i64 t, .int .i64 0]] w fun e w' => e = .returned (.bool d) ∧ Ch [] w w') :
    Calls Try.prog 56 #[.int .i64 t, .pointer (some ⟨bm, 0, none⟩)] w fun e w' => e = .returned (.bool d) ∧ Ch [] w w' := by
  have c0 := hm.cell
  have H := hidh h
  clear h
  go_enter Try.func56, Try.ntmps56
  go_wp2_with (go_at_call 57; refine H.out.mono ?_; rintro e w' ⟨rfl, hch⟩)
  go_ret
  exact ⟨rfl, hch⟩

set_option maxRecDepth 100000 in
set_option maxHeartbeats 2000000 in
/-- Able: the numbers of the threads that can take a step. -/
theorem mable (pm N : Nat) (d : Nat → Bool) (w : World) (hN : N ≤ 1000)
    (hthr : ∀ W, Ch [] w W → Calls Try.prog 82 #[.pointer (some ⟨pm, 0, none⟩)] W fun e w' => e = .returned (.int .i64 N) ∧ W = w')
    (hd : ∀ W, Ch [] w W → ∀ t, t < N → Calls Try.prog 57 #[.pointer (some ⟨pm, 0, none⟩), .agg #[.int .i64 t, .int .i64 0]] W fun e w' => e = .returned (.bool (d t)) ∧ Ch [] W w') :
    Calls Try.prog 17 #[.pointer (some ⟨pm, 0, none⟩)] w (RowOut w (sel d N)) := by
  obtain ⟨w0, hw0⟩ : ∃ w0, (w.alloc (Obj.cells #[Value.pointer (some { block := pm, off := 0 })] 27)) = w0 := ⟨_, rfl⟩
  have hs0 : w0.heap.size = w.heap.size + 1 := by rw [← hw0]; simp
  have h01 : Ch [] w w0 := by rw [← hw0]; exact (Ch.refl _ _).alloc _
  have bm : Box w0 w.heap.size 27 (.pointer (some ⟨pm, 0, none⟩)) := by rw [← hw0]; exact al_new rfl _
  obtain ⟨w1, hw1⟩ : ∃ w1, (w0.alloc (Obj.cells #[Value.pointer (some { block := pm, off := 0 })] 27)).alloc (Obj.cells #[Value.func (Fn.func 56) #[] #[Value.pointer (some { block := w.heap.size, off := 0 })]] 57) = w1 := ⟨_, rfl⟩
  have hs1 : w1.heap.size = w.heap.size + 3 := by rw [← hw1]; simp; omega
  have h12 : Ch [] w0 w1 := by rw [← hw1]; exact ((Ch.refl _ _).alloc _).alloc _
  have hseq := each_stops 4 (by omega) pm 56 w.heap.size N d w0 w1 hN (fun W hW => hthr W (h01.trans hW))
    (fun W hW t ht => able_1 w.heap.size pm t (d t) W (bm.ch hW (by simp)) (hd W (h01.trans hW) t ht))
    (fun _ _ => by kernel_rfl) hw1
  have H := hidh (collect_in (w0.heap.size) (w0.heap.size + 1) (w0.heap.size + 2) N _ _ w1 hN (by omega) hseq)
  clear hseq hthr hd
  have hE := each_calls pm 56 w.heap.size w0
  rw [hw1] at hE
  rw [hs0] at hE H
  have c0 := bm.cell
  have hsum := h01.trans h12
  have hle : w.heap.size ≤ w1.heap.size := by omega
  clear hw1 hs1 h12 hs0 h01 bm
  subst hw0
  go_enter Try.func17, Try.ntmps17
  go_wp2_with (first | (go_at_call 52; refine hE.mono ?_; rintro e w' ⟨rfl, rfl⟩) | (go_at_call 55; refine H.out.mono ?_; rintro e w' ⟨v, rfl, hr, hnil, hch⟩))
  go_ret
  exact ⟨v, rfl, ownsRow_low hr hle, hnil, hsum.trans hch⟩

end Go.Proofs.Ytejedbknpjffkaa
