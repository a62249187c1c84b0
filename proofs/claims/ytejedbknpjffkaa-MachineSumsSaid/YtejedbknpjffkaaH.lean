/- Iterators over a machine's threads: each, Over, Able; conditions: how many threads there are, and what is asked of each, is known. -/
import Derived.RangeFuncNested
import Derived.RangeFuncBound
import Derived.RangeFuncCalls
import Derived.RangeFuncLeaves
import Derived.Shelf.Abstract
import Derived.Shelf.RegionOpen
import Derived.Maps.AppendAt
import Derived.OwnWalkIn
import Derived.TacticsInMore
import Derived.LoopNIn
import Derived.LoopIn
import Derived.Test.YtejedbknpjffkaaG
namespace Go.Proofs.Ytejedbknpjffkaa
open Go.RowKit Go.Shelf

attribute [local go_sem] Oper.semAt_some

theorem Ch.grown {w w' : World} (h : Ch [] w w') : w.grownBy w' none := ⟨h.os, h.tape, h.output, h.size, fun k hk _ => h.block k hk (by simp)⟩
theorem Ch.ofBelow {n : Nat} {w w' : World} (h : Below n w w') (hn : w.heap.size ≤ n) : Ch [] w w' := ⟨h.os, h.tape, h.output, h.size, fun k hk _ => h.block k (by omega)⟩

/-- The numbers below k of which it holds. -/
def sel (hb : Nat → Bool) (k : Nat) : List Nat := (List.range k).filter hb
theorem sel_yes {hb : Nat → Bool} {k : Nat} (h : hb k = true) : sel hb (k + 1) = sel hb k ++ [k] := by simp [sel, List.range_succ, List.filter_append, h]
theorem sel_no {hb : Nat → Bool} {k : Nat} (h : hb k = false) : sel hb (k + 1) = sel hb k := by simp [sel, List.range_succ, List.filter_append, h]
theorem sel_len (hb : Nat → Bool) (k : Nat) : (sel hb k).length ≤ k := by
  have := List.length_filter_le hb (List.range k)
  simpa [sel] using this

set_option maxRecDepth 100000 in
set_option maxHeartbeats 2000000 in
theorem each1_in (n : Nat) (hn : 1 ≤ n) (l Bm Bh pm hf cb N n₀ : Nat) (hb : Nat → Bool) (w0 : World) (hN : N ≤ 1000)
    (hthr : ∀ W, Ch [] w0 W → Calls Try.prog 82 #[.pointer (some ⟨pm, 0, none⟩)] W fun e w' => e = .returned (.int .i64 N) ∧ W = w')
    (hh : ∀ W, Ch [] w0 W → ∀ t, t < N → Calls Try.prog hf #[.int .i64 t, .pointer (some ⟨cb, 0, none⟩)] W fun e w' => e = .returned (.bool (hb t)) ∧ Ch [] W w')
    (he : ∀ t w, (callFunc hf #[t, .pointer (some ⟨cb, 0, none⟩)]).run Try.prog w = .ok (.enter hf #[t, .pointer (some ⟨cb, 0, none⟩)]) w) (hn₀ : w0.heap.size ≤ n₀)
    (J Jx : List Nat → World → Prop)
    (hJ : ∀ s A B, J s A → Ch [] A B → J s B)
    (hY : ∀ pre x W, J pre W → pre.length < N → YieldAt Fence.wide (n - 1) Try.prog l #[.int .i64 (x : Nat)] W fun e W' =>
      (e = .returned (.bool true) ∧ J (pre ++ [x]) W' ∧ Below n₀ W W') ∨ (e = .returned (.bool false) ∧ Jx (pre ++ [x]) W'))
    (W : World) (hW : Ch [] w0 W) (hm : Box W Bm 27 (.pointer (some ⟨pm, 0, none⟩))) (hbx : Box W Bh 57 (.func (.func hf) #[] #[.pointer (some ⟨cb, 0, none⟩)])) (hBh : Bh < n₀) (hnW : n₀ ≤ W.heap.size) (h0 : J [] W) :
    CallsIn Fence.wide n Try.prog 89 #[.func (.yield l) #[] #[], .pointer (some ⟨Bm, 0, none⟩), .pointer (some ⟨Bh, 0, none⟩)] W fun e W' => (∃ v, e = .returned v) ∧
      ((∃ ys, ys = sel hb N ∧ J ys W') ∨ (∃ pre, (∃ k, k < N ∧ hb k = true ∧ pre = sel hb (k + 1)) ∧ Jx pre W')) := by
  refine callsIn_of_wp Try.func89 rfl trivial ?_ rfl
  simp only [Try.ntmps89, List.size_toArray, List.length_cons, List.length_nil, Nat.reduceAdd, Nat.reduceSub, Array.replicate_succ, Array.replicate_zero, List.push_toArray, List.append_toArray, List.nil_append, List.cons_append]
  have c0 := hm.cell
  gi_wp2_with (refine ⟨trivial, ?_⟩; gi_at_call 82; refine (callsIn_wide.2 (hthr _ hW)).mono ?_; rintro e w' ⟨rfl, rfl⟩)
  gi_loopw [7] (fun i wr => ∃ k : Nat, k ≤ N ∧ i = .int .i64 k ∧ J (sel hb k) wr ∧ Below n₀ W wr)
    (fun i _ => N - (intOf i).toNat)
  case atStart => exact ⟨0, Nat.zero_le _, rfl, h0, Below.refl _ _⟩
  case round =>
    obtain ⟨k, hk, rfl, hJs, hnx⟩ := hrel
    have hsz : n₀ ≤ wr.heap.size := Nat.le_trans hnW hnx.size
    have bl : ∀ {A}, Ch [] wr A → Below n₀ wr A := fun h => h.below.mono hsz
    have hch : Ch [] w0 wr := ⟨hnx.os.trans hW.os, hnx.tape.trans hW.tape, hnx.output.trans hW.output, Nat.le_trans hW.size hnx.size, fun i hi hm => (hnx.block i (by omega)).trans (hW.block i hi hm)⟩
    by_cases hlt : k < N
    · have c1 : wr.cell? ⟨Bh, 0, none⟩ = some (.func (.func hf) #[] #[.pointer (some ⟨cb, 0, none⟩)]) := (hnx.cell (p := ⟨Bh, 0, none⟩) hBh).trans hbx.cell
      have hY' : ∀ w2, Ch [] wr w2 → YieldAt Fence.wide (n - 1) Try.prog l #[.int .i64 (k : Nat)] w2 fun e W' => (e = .returned (.bool true) ∧ J (sel hb k ++ [k]) W' ∧ Below n₀ w2 W') ∨ (e = .returned (.bool false) ∧ Jx (sel hb k ++ [k]) W') :=
        fun w2 h2 => hY _ k w2 (hJ _ _ _ hJs h2) (Nat.lt_of_le_of_lt (sel_len hb k) hlt)
      cases hbk : hb k with
      | true =>
        gi_wp2_with (refine ⟨trivial, ?_⟩; refine (callsIn_wide.2 (hh _ hch k hlt)).mono ?_; rintro e w2 ⟨rfl, hk2⟩; obtain ⟨fn, tmps, assign, body, hy, hR⟩ := hY' w2 hk2; clear hY' hh hY)
        refine hR.mono ?_
        rintro e W3 (⟨rfl, hJ3, hk3⟩ | ⟨rfl, hJx3⟩)
        · gi_wp2
          go_roundw
          case rel => exact ⟨k + 1, by omega, by simp, by rw [sel_yes hbk]; exact hJ3, hnx.trans (Below.trans (bl hk2) hk3)⟩
          case measure => simp [intOf]; omega
        · gi_wp2
          refine bodyPost_ret (results_none rfl _ _ _) rfl ?_
          exact ⟨⟨_, rfl⟩, .inr ⟨_, ⟨k, hlt, hbk, (sel_yes hbk).symm⟩, hJx3⟩⟩
      | false =>
        gi_wp2_with (refine ⟨trivial, ?_⟩; refine (callsIn_wide.2 (hh _ hch k hlt)).mono ?_; rintro e w2 ⟨rfl, hk2⟩)
        refine ⟨fun _ h => (by cases h), ?_⟩
        gi_wp2
        go_roundw
        case rel => exact ⟨k + 1, by omega, by simp, by rw [sel_no hbk]; exact hJ _ _ _ hJs hk2, hnx.trans (bl hk2)⟩
        case measure => simp [intOf]; omega
    · obtain rfl : k = N := by omega
      gi_wp2
      go_end0
      exact ⟨⟨_, rfl⟩, .inl ⟨_, rfl, hJs⟩⟩

theorem each_calls (pm hf cb : Nat) (w : World) : Calls Try.prog 52 #[.pointer (some ⟨pm, 0, none⟩), .func (.func hf) #[] #[.pointer (some ⟨cb, 0, none⟩)]] w fun e w' =>
    e = .returned (.func (.func 89) #[] #[.pointer (some ⟨w.heap.size, 0, none⟩), .pointer (some ⟨w.heap.size + 1, 0, none⟩)]) ∧ (w.alloc (.cells #[.pointer (some ⟨pm, 0, none⟩)] 27)).alloc (.cells #[.func (.func hf) #[] #[.pointer (some ⟨cb, 0, none⟩)]] 57) = w' := by
  go_enter Try.func52, Try.ntmps52
  go_wp2
  go_ret
  exact ⟨rfl, rfl⟩

/-- What each hands back runs over the numbers of which it holds. -/
theorem each_stops (n : Nat) (hn : 1 ≤ n) (pm hf cb N : Nat) (hb : Nat → Bool) (w0 w : World) (hN : N ≤ 1000)
    (hthr : ∀ W, Ch [] w0 W → Calls Try.prog 82 #[.pointer (some ⟨pm, 0, none⟩)] W fun e w' => e = .returned (.int .i64 N) ∧ W = w')
    (hh : ∀ W, Ch [] w0 W → ∀ t, t < N → Calls Try.prog hf #[.int .i64 t, .pointer (some ⟨cb, 0, none⟩)] W fun e w' => e = .returned (.bool (hb t)) ∧ Ch [] W w')
    (he : ∀ t w, (callFunc hf #[t, .pointer (some ⟨cb, 0, none⟩)]).run Try.prog w = .ok (.enter hf #[t, .pointer (some ⟨cb, 0, none⟩)]) w)
    (hw : (w0.alloc (.cells #[.pointer (some ⟨pm, 0, none⟩)] 27)).alloc (.cells #[.func (.func hf) #[] #[.pointer (some ⟨cb, 0, none⟩)]] 57) = w) :
    SeqStopsK Fence.wide n Try.prog 89 #[.pointer (some ⟨w0.heap.size, 0, none⟩), .pointer (some ⟨w0.heap.size + 1, 0, none⟩)] (fun x : Nat => #[Value.int .i64 (x : Nat)]) (Below (w0.heap.size + 2)) (fun ys => ys = sel hb N)
      (fun pre => ∃ k, k < N ∧ hb k = true ∧ pre = sel hb (k + 1)) N w := fun l J Jx W hW hJ hJx hY h0 => by
  have hs : w.heap.size = w0.heap.size + 2 := by rw [← hw]; simp
  have h1 : Ch [] w0 w := by rw [← hw]; exact ((Ch.refl _ _).alloc _).alloc _
  have h2 : Ch [] w W := Ch.ofBelow hW (Nat.le_refl _)
  have b1 : Box w w0.heap.size 27 (.pointer (some ⟨pm, 0, none⟩)) := by rw [← hw]; exact al (al_new rfl _) _
  have b2 : Box w (w0.heap.size + 1) 57 (.func (.func hf) #[] #[.pointer (some ⟨cb, 0, none⟩)]) := by rw [← hw]; exact al_new (by simp) _
  refine each1_in n hn l w0.heap.size (w0.heap.size + 1) pm hf cb N (w0.heap.size + 2) hb w0 hN hthr hh he (by omega) J Jx (fun s A B hs hc => hJ s A B none hs hc.grown (fun r e => by cases e)) hY W (h1.trans h2) (b1.ch h2 (by simp)) (b2.ch h2 (by simp)) (by omega) (by have := hW.size; omega) h0

theorem over_1 (bm pm t : Nat) (d : Bool) (w : World) (hm : Box w bm 27 (.pointer (some ⟨pm, 0, none⟩))) (h : Calls Try.prog 54 #[.pointer (some ⟨pm, 0, none⟩), .int .i64 t] w fun e w' => e = .returned (.bool d) ∧ w = w') :
    Calls Try.prog 53 #[.int .i64 t, .pointer (some ⟨bm, 0, none⟩)] w fun e w' => e = .returned (.bool (!d)) ∧ w = w' := by
  have c0 := hm.cell
  have H := hidh h
  clear h
  go_enter Try.func53, Try.ntmps53
  go_wp2_with (go_at_call 54; refine H.out.mono ?_; rintro e w' ⟨rfl, rfl⟩)
  go_ret
  exact ⟨rfl, rfl⟩

set_option maxRecDepth 100000 in
set_option maxHeartbeats 2000000 in
theorem over_in (pm N : Nat) (d : Nat → Bool) (w : World) (hN : N ≤ 1000)
    (hthr : ∀ W, Ch [] w W → Calls Try.prog 82 #[.pointer (some ⟨pm, 0, none⟩)] W fun e w' => e = .returned (.int .i64 N) ∧ W = w')
    (hd : ∀ W, Ch [] w W → ∀ t, t < N → Calls Try.prog 54 #[.pointer (some ⟨pm, 0, none⟩), .int .i64 t] W fun e w' => e = .returned (.bool (d t)) ∧ W = w') :
    CallsIn Fence.wide 3 Try.prog 16 #[.pointer (some ⟨pm, 0, none⟩)] w fun e w' => e = .returned (.bool (sel (fun t => !d t) N).isEmpty) ∧ Ch [] w w' := by
  refine callsIn_of_wp_marks Try.func16 rfl trivial ?_ rfl
  simp only [Try.ntmps16, List.size_toArray, List.length_cons, List.length_nil, Nat.reduceAdd, Nat.reduceSub, Array.replicate_succ, Array.replicate_zero, List.push_toArray, List.append_toArray, List.nil_append, List.cons_append]
  gi_wp2_with (refine ⟨trivial, ?_⟩; gi_at_call 52; refine (callsIn_wide.2 (each_calls _ _ _ _)).mono ?_; rintro e w' ⟨rfl, rfl⟩)
  obtain ⟨w0, hw0⟩ : ∃ w0, (w.alloc (Obj.cells #[Value.pointer (some { block := pm, off := 0 })] 27)).alloc (Obj.cells #[Value.bool false] 4) = w0 := ⟨_, rfl⟩
  have hs0 : w0.heap.size = w.heap.size + 1 + 1 := by rw [← hw0]; simp
  have h01 : Ch [] w w0 := by rw [← hw0]; exact ((Ch.refl _ _).alloc _).alloc _
  have bm : Box w0 w.heap.size 27 (.pointer (some ⟨pm, 0, none⟩)) := by rw [← hw0]; exact al (al_new rfl _) _
  have br : Box w0 (w.heap.size + 1) 4 (.bool false) := by rw [← hw0]; exact al_new (by simp) _
  rw [hw0]
  obtain ⟨w1, hw1⟩ : ∃ w1, (w0.alloc (Obj.cells #[Value.pointer (some { block := pm, off := 0 })] 27)).alloc (Obj.cells #[Value.func (Fn.func 53) #[] #[Value.pointer (some { block := w.heap.size, off := 0 })]] 57) = w1 := ⟨_, rfl⟩
  have hs1 : w1.heap.size = w.heap.size + 4 := by rw [← hw1]; simp; omega
  have h12 : Ch [] w0 w1 := by rw [← hw1]; exact ((Ch.refl _ _).alloc _).alloc _
  have hseq := each_stops 2 (by omega) pm 53 w.heap.size N (fun t => !d t) w0 w1 hN (fun W hW => hthr W (h01.trans hW))
    (fun W hW t ht => (over_1 w.heap.size pm t (d t) W (bm.ch hW (by simp)) (hd W (h01.trans hW) t ht)).mono (by rintro e w' ⟨rfl, rfl⟩; exact ⟨rfl, Ch.refl _ _⟩))
    (fun _ _ => by kernel_rfl) hw1
  rw [hw1]
  rw [hs0] at hseq
  refine wpIn_rangeFunc_ownF (n := 3) rfl (by omega) (gf := 89) (lb := #[.pointer (some ⟨w.heap.size + 1 + 1, 0, none⟩), .pointer (some ⟨w.heap.size + 1 + 1 + 1, 0, none⟩)]) rfl trivial (enters_of Try.func89 (by kernel_rfl) rfl)
    hseq belowK_t (belowK_b (by omega)) (Below.refl _ _) (fun _ => rfl)
    (fun pre W => (pre = [] ∧ W.cell? ⟨w.heap.size + 1, 0, none⟩ = some (.bool false) ∧ W.frozen? ⟨w.heap.size + 1, 0, none⟩ = false) ∧ Below w.heap.size w W)
    (fun c pre W => (c = .ret ∧ W.cell? ⟨w.heap.size + 1, 0, none⟩ = some (.bool false)) ∧ Below w.heap.size w W)
    (OwnFrom.and (Own.from (fun s A B row hs hg hr => ⟨hs.1, cell_kept hs.2.1 hg hr, (frozen_kept hs.2.1 hg hr).trans hs.2.2⟩) _) (ownFrom_below (Nat.le_refl _) (by omega)))
    (fun c => OwnFrom.and (Own.from (fun s A B row hs hg hr => ⟨hs.1, cell_kept hs.2 hg hr⟩) _) (ownFrom_below (Nat.le_refl _) (by omega)))
    ⟨⟨rfl, (br.ch h12 (by simp)).cell, (br.ch h12 (by simp)).fz⟩, (h01.trans h12).below⟩
    (fun x => { tmps := #[.pointer (some ⟨pm, 0, none⟩), .pointer (some ⟨w.heap.size, 0, none⟩), .pointer (some ⟨w.heap.size + 1, 0, none⟩), .pointer (some ⟨pm, 0, none⟩), .func (.func 53) #[] #[.pointer (some ⟨w.heap.size, 0, none⟩)], .func (.func 89) #[] #[.pointer (some ⟨w.heap.size + 1 + 1, 0, none⟩), .pointer (some ⟨w.heap.size + 1 + 1 + 1, 0, none⟩)], .int .i64 (x : Nat)], defers := [] }) ?assign ?body ?done ?stop
  case assign =>
    intro l x W K hK
    gi_wp2
    simpa using hK
  case body =>
    rintro l pre x W ⟨⟨rfl, hcr, hfr⟩, hB⟩ _
    gi_wp2
    exact ⟨KeepsOthers.setCell _ _ _, ⟨rfl, World.cell?_setCell_same' _ _ _ (by rw [hcr]; rfl)⟩, hB.setCell (p := ⟨w.heap.size + 1, 0, none⟩) (by show w.heap.size ≤ w.heap.size + 1; omega) _⟩
  case done =>
    rintro D ys W hD hys ⟨⟨rfl, hcr, hfr⟩, hB⟩ hK
    gi_wp2
    have hK' := (KeepsOthers.setCell W ⟨w.heap.size + 1, 0, none⟩ (.bool true)).same D _ hK rfl
    refine ⟨by simp, .inl ⟨_, _, rfl, run_takeDeferred hK', ?_⟩⟩
    have hc5 := cell_kept (World.cell?_setCell_same' W ⟨w.heap.size + 1, 0, none⟩ (.bool true) (by rw [hcr]; rfl)) (grownBy_putObj' _ D (.deferred none)) (fun r e => by cases e; exact ⟨_, hK', rfl⟩)
    have hB2 := (hB.setCell (p := ⟨w.heap.size + 1, 0, none⟩) (by show w.heap.size ≤ w.heap.size + 1; omega) (.bool true)).trans (belowK_b (w := w) (Nat.le_refl _) _ D _ (.deferred none) (by omega) hK' rfl rfl)
    refine ⟨.bool true, ?_, by rw [← hys]; rfl, Ch.ofBelow hB2 (Nat.le_refl _)⟩
    simp [results, Try.f16, go_sem, hc5]
  case stop =>
    rintro D c pre W hD ⟨k, hk, hbk, rfl⟩ ⟨⟨rfl, hcr⟩, hB⟩ hK
    gi_wp2
    refine ⟨by simp, .inl ⟨_, _, rfl, run_takeDeferred hK, ?_⟩⟩
    have hc5 := cell_kept hcr (grownBy_putObj' _ D (.deferred none)) (fun r e => by cases e; exact ⟨_, hK, rfl⟩)
    have hB2 := hB.trans (belowK_b (w := w) (Nat.le_refl _) _ D _ (.deferred none) (by omega) hK rfl rfl)
    have hne : (sel (fun t => !d t) N).isEmpty = false := by
      rw [List.isEmpty_eq_false_iff_exists_mem]
      exact ⟨k, by simp only [sel, List.mem_filter, List.mem_range]; exact ⟨hk, hbk⟩⟩
    refine ⟨.bool false, ?_, by rw [hne], Ch.ofBelow hB2 (Nat.le_refl _)⟩
    simp [results, Try.f16, go_sem, hc5]

/-- Over: whether there is no thread that is not done. -/
theorem mover (pm N : Nat) (d : Nat → Bool) (w : World) (hN : N ≤ 1000)
    (hthr : ∀ W, Ch [] w W → Calls Try.prog 82 #[.pointer (some ⟨pm, 0, none⟩)] W fun e w' => e = .returned (.int .i64 N) ∧ W = w')
    (hd : ∀ W, Ch [] w W → ∀ t, t < N → Calls Try.prog 54 #[.pointer (some ⟨pm, 0, none⟩), .int .i64 t] W fun e w' => e = .returned (.bool (d t)) ∧ W = w') :
    Calls Try.prog 16 #[.pointer (some ⟨pm, 0, none⟩)] w fun e w' => e = .returned (.bool (sel (fun t => !d t) N).isEmpty) ∧ Ch [] w w' :=
  callsIn_wide.1 (over_in pm N d w hN hthr hd)

theorem can_no (pm t : Nat) (w : World) (h : ∀ w', Ch [] w w' → Calls Try.prog 48 #[.pointer (some ⟨pm, 0, none⟩), .int .i64 t] w' fun e w'' => e = .returned (.pointer none) ∧ w' = w'') :
    Calls Try.prog 57 #[.pointer (some ⟨pm, 0, none⟩), .agg #[.int .i64 t, .int .i64 0]] w fun e w' => e = .returned (.bool false) ∧ Ch [] w w' := by
  go_enter Try.func57, Try.ntmps57
  go_wp2_with (go_at_call 48; refine (h _ ((Ch.refl _ w).alloc _)).mono ?_; rintro e w' ⟨rfl, rfl⟩)
  go_quiet (fail)
  go_wp2
  go_ret
  exact ⟨rfl, ((Ch.refl _ w).alloc _).drewN _⟩

theorem can_yes (pm t p q : Nat) (fv vv : Value) (w : World) (h : ∀ w', Ch [] w w' → Calls Try.prog 48 #[.pointer (some ⟨pm, 0, none⟩), .int .i64 t] w' fun e w'' => e = .returned (.pointer (some ⟨p, 0, none⟩)) ∧ w' = w'')
    (hT : ThreadAt w p (some q) fv vv) (hq : ∀ w', Ch [] w w' → Calls Try.prog 76 #[.pointer (some ⟨q, 0, none⟩), .int .i64 0] w' fun e w'' => e = .returned (.bool true) ∧ w' = w'') :
    Calls Try.prog 57 #[.pointer (some ⟨pm, 0, none⟩), .agg #[.int .i64 t, .int .i64 0]] w fun e w' => e = .returned (.bool true) ∧ Ch [] w w' := by
  have hT1 := (hT.ch ((Ch.refl [] w).alloc (.cells #[.int .i64 t, .int .i64 0] 38)) (by simp)).c0
  rw [ptrTo_some] at hT1
  go_enter Try.func57, Try.ntmps57
  go_wp2_with (go_at_call 48; refine (h _ ((Ch.refl _ w).alloc _)).mono ?_; rintro e w' ⟨rfl, rfl⟩)
  have hq' : ∀ w', Ch [] w w' → Calls Try.prog 76 #[.pointer (some ⟨q, 0, none⟩), .int .i64 0] w' fun e w'' => e = .returned (.bool true) ∧ ∃ n, w'' = w'.drewN n := fun w' k => (hq w' k).mono (by rintro e w2 ⟨rfl, rfl⟩; exact ⟨rfl, 0, rfl⟩)
  go_quiet (first | (go_at_call 76; refine Calls.quiet_of (hq' _ ?_); exact ((Ch.refl _ w).alloc _).drewN _) | fail)
  go_wp2
  go_ret
  exact ⟨rfl, ((Ch.refl _ w).alloc _).drewN _⟩

end Go.Proofs.Ytejedbknpjffkaa
