/- A pick of a thread that adds: what it answers, what it leaves; and what hands out the next task; conditions: the blocks of machine, thread, tasks, values are known. -/
import Derived.Test.YtejedbknpjffkaaE
namespace Go.Proofs.Ytejedbknpjffkaa
open Go.RowKit

/-- A fact that the walk does not look into. -/
theorem hidh {p : Prop} (h : p) : Hid p := h

theorem next_out (w : World) (bl i n c : Nat) (a : Option Addr) (hl : Box w bl 30 (.slice a n c)) (hi : ¬ i < n) (vi : Int) (hv : vi = i) :
    Calls Try.prog 46 #[.int .i64 vi, .pointer (some ⟨bl, 0, none⟩)] w fun e w' => e = .returned (.pointer none) ∧ w = w' := by
  subst hv
  have c0 := hl.cell
  go_enter Try.func46, Try.ntmps46
  go_wp2
  go_ret
  exact ⟨rfl, rfl⟩

theorem next_in (w : World) (bl br i n c q : Nat) (hl : Box w bl 30 (.slice (some ⟨br, 0, none⟩) n c)) (hi : i < n) (hr : w.cell? ⟨br, i, none⟩ = some (.pointer (some ⟨q, 0, none⟩))) (vi : Int) (hv : vi = i) :
    Calls Try.prog 46 #[.int .i64 vi, .pointer (some ⟨bl, 0, none⟩)] w fun e w' => e = .returned (.pointer (some ⟨q, 0, none⟩)) ∧ w = w' := by
  subst hv
  have c0 := hl.cell
  go_enter Try.func46, Try.ntmps46
  go_wp2
  go_ret
  exact ⟨rfl, rfl⟩

theorem mach_new (w : World) : Calls Try.prog 11 #[] w fun e w' => e = .returned (.pointer (some ⟨w.heap.size, 0, none⟩)) ∧ w.alloc (.cells #[.slice none 0 0] 94) = w' := by
  go_enter Try.func11, Try.ntmps11
  go_wp2
  go_ret
  exact ⟨rfl, rfl⟩

/-- Done of a thread. -/
theorem mdone_yes (w : World) (pm t : Nat) (h : Calls Try.prog 48 #[.pointer (some ⟨pm, 0, none⟩), .int .i64 t] w fun e w' => e = .returned (.pointer none) ∧ w = w') :
    Calls Try.prog 54 #[.pointer (some ⟨pm, 0, none⟩), .int .i64 t] w fun e w' => e = .returned (.bool true) ∧ w = w' := by
  have H := hidh h
  clear h
  go_enter Try.func54, Try.ntmps54
  go_wp2_with (go_at_call 48; refine H.out.mono ?_; rintro e w' ⟨rfl, rfl⟩)
  go_ret
  exact ⟨rfl, rfl⟩

theorem mdone_no (w : World) (pm t p : Nat) (h : Calls Try.prog 48 #[.pointer (some ⟨pm, 0, none⟩), .int .i64 t] w fun e w' => e = .returned (.pointer (some ⟨p, 0, none⟩)) ∧ w = w') :
    Calls Try.prog 54 #[.pointer (some ⟨pm, 0, none⟩), .int .i64 t] w fun e w' => e = .returned (.bool false) ∧ w = w' := by
  have H := hidh h
  clear h
  go_enter Try.func54, Try.ntmps54
  go_wp2_with (go_at_call 48; refine H.out.mono ?_; rintro e w' ⟨rfl, rfl⟩)
  go_ret
  exact ⟨rfl, rfl⟩

theorem FreshAdd.drew {w : World} {p pc i : Nat} {d : Int} {pp b0 b1 b2 : Nat} (h : FreshAdd w p pc i d pp b0 b1 b2) : FreshAdd w.drew p pc i d pp b0 b1 b2 := ⟨h.task, h.point, h.h0, h.h1, h.h2⟩

theorem Ch.ofDrew {ms : List Nat} {a b : World} (h : Ch ms a.drew b) : Ch ms a b := ⟨h.os, h.tape, h.output, h.size, h.block⟩

theorem Ch.drewN {ms : List Nat} {a b : World} (h : Ch ms a b) (n : Nat) : Ch ms a (b.drewN n) := ⟨h.os, h.tape, h.output, h.size, h.block⟩

theorem ownsRow_ch {ms : List Nat} {w w' : World} {base : Nat} {e : TypeId} {size : Nat} {v : Value} {n : Nat} {xs : List Value} (h : w.ownsRow base e size v n xs) (k : Ch ms w w') (hm : ∀ g, v.ownBlock = some g → g ∉ ms) : w'.ownsRow base e size v n xs := by
  refine ⟨h.1, ?_⟩
  rcases h.2 with hn | ⟨g, cap, cur, rfl, hb, hg, r⟩
  · exact .inl hn
  · exact .inr ⟨g, cap, cur, rfl, hb, k.heap hg (hm g rfl), r⟩

set_option maxRecDepth 100000 in
set_option maxHeartbeats 1000000 in
/-- Pick where nobody is, or all is done. -/
theorem pick_none (w : World) (pm t : Nat) (k : Int) (h : ∀ w', Ch [] w w' → Calls Try.prog 48 #[.pointer (some ⟨pm, 0, none⟩), .int .i64 t] w' fun e w'' => e = .returned (.pointer none) ∧ w' = w'') :
    Calls Try.prog 14 #[.pointer (some ⟨pm, 0, none⟩), .agg #[.int .i64 t, .int .i64 k]] w fun e w' => e = .returned (.bool false) ∧ Ch [] w w' := by
  go_enter Try.func14, Try.ntmps14
  go_wp2_with (go_at_call 48; refine (h _ ((Ch.refl _ w).alloc _)).mono ?_; rintro e w' ⟨rfl, rfl⟩)
  go_quiet (fail)
  go_wp2
  go_ret
  exact ⟨rfl, ((Ch.refl _ w).alloc _).drewN _⟩

set_option maxRecDepth 100000 in
set_option maxHeartbeats 2000000 in
theorem pick_add (w : World) (pm t p q pc bw pp b0 b1 b2 bl n B : Nat) (x d st : Int) (vv : Value) (vals : List Value)
    (hth : ∀ w', Ch [] w w' → Calls Try.prog 48 #[.pointer (some ⟨pm, 0, none⟩), .int .i64 t] w' fun e w'' => e = .returned (.pointer (some ⟨p, 0, none⟩)) ∧ w' = w'')
    (hC : CellsAt w pc bw [x] st) (hT : ThreadAt w p (some q) (.func (.func 46) #[] #[.pointer (some ⟨bl, 0, none⟩)]) vv) (hF : FreshAdd w q pc 0 d pp b0 b1 b2)
    (hown : w.ownsRow B 3 1 vv n vals) (hn : n < 100) (hB : B ≤ w.heap.size) (nx : Option Nat)
    (hnext : ∀ w2, Ch ([pc, bw, q, p] ++ vv.ownBlock.toList) w w2 → Calls Try.prog 46 #[.int .i64 ((n : Int) + 1), .pointer (some ⟨bl, 0, none⟩)] w2 fun e w' => e = .returned (ptrTo nx) ∧ w2 = w')
    (hnx : ∀ q', nx = some q' → q' ≠ q ∧ ∃ r u bv', TaskAt w q' (some r) u bv') :
    Calls Try.prog 14 #[.pointer (some ⟨pm, 0, none⟩), .agg #[.int .i64 t, .int .i64 0]] w fun e w' => e = .returned (.bool true) ∧ CellsAt w' pc bw [IntKind.u64.wrap (x + d)] (wrap64 (st + 1)) ∧
      ∃ g cap, ThreadAt w' p nx (.func (.func 46) #[] #[.pointer (some ⟨bl, 0, none⟩)]) (.slice (some ⟨g, 0, none⟩) (n + 1) cap) ∧ w'.ownsRow B 3 1 (.slice (some ⟨g, 0, none⟩) (n + 1) cap) (n + 1) (vals ++ [.int .i64 (wrap64 (IntKind.u64.wrap (x + d)))]) ∧
        Ch ([pc, bw, q, p] ++ vv.ownBlock.toList) w w' ∧ (vv.ownBlock = some g ∨ w.heap.size ≤ g) := by
  have hqp : q ≠ p := ne_type hF.task hT (by decide)
  have hpc : p ≠ pc := ne_type hT hC.hc (by decide)
  have hpb : p ≠ bw := ne_type hT hC.hw (by decide)
  have hqc : q ≠ pc := ne_type hF.task hC.hc (by decide)
  have hqb : q ≠ bw := ne_type hF.task hC.hw (by decide)
  have n1 := not_own hown hC.hc (by decide)
  have n2 := not_own hown hC.hw (by decide)
  have n3 := not_own hown hF.task (by decide)
  have n4 := not_own hown hT (by decide)
  go_enter Try.func14, Try.ntmps14
  go_wp2_with (go_at_call 48; refine (hth _ ((Ch.refl _ w).alloc _)).mono ?_; rintro e w' ⟨rfl, rfl⟩)
  have hch0 : Ch [] w (w.alloc (.cells #[.int .i64 t, .int .i64 0] 38)) := (Ch.refl _ w).alloc _
  have hbox : (w.alloc (.cells #[.int .i64 t, .int .i64 0] 38)).heap[w.heap.size]? = some (.cells #[.int .i64 t, .int .i64 0] 38) := al_new rfl _
  revert hch0 hbox
  generalize w.alloc (.cells #[.int .i64 t, .int .i64 0] 38) = W
  intro hch0 hbox
  obtain ⟨N, hN⟩ : ∃ N, N = w.heap.size := ⟨_, rfl⟩
  rw [← hN] at hbox ⊢
  have hTW := hT.ch hch0 (by simp)
  have hCW := hC.ch hch0 (by simp) (by simp)
  have hFW := hF.ch hch0 (by simp)
  have h0 := hTW.c0
  rw [ptrTo_some] at h0
  have h1 : W.cell? ⟨N, 1, none⟩ = some (.int .i64 0) := cell_of hbox rfl
  have hNp : N ≠ p := ne_type hbox hTW (by decide)
  have hNc : N ≠ pc := ne_type hbox hCW.hc (by decide)
  have hNb : N ≠ bw := ne_type hbox hCW.hw (by decide)
  have hNq : N ≠ q := ne_type hbox hFW.task (by decide)
  have hstep := step_add q pc bw 0 pp b0 b1 b2 [x] d st W.drew (by simp) hCW.drew hFW.drew
  have HN := hidh hN
  clear hN
  go_region_held3 (fun w' => w'.cell? ⟨p, 0, none⟩ = some (.pointer (some ⟨q, 0, none⟩)) ∧ w'.cell? ⟨N, 1, none⟩ = some (.int .i64 0)) (first | (simp [*]; done) | exact ⟨e1, e2⟩)
    (first | (go_at_call 35; refine hstep.mono ?_; rintro e w1 ⟨rfl, hC1, hT1, hc1⟩; have hP1 : ThreadAt w1 p _ _ _ := ThreadAt.ch hTW hc1.ofDrew (by simp [hpc, hpb, hqp.symm]); have e1 := hP1.c0; rw [ptrTo_some] at e1; have e2 : w1.cell? ⟨N, 1, none⟩ = some (.int .i64 0) := cell_of (hc1.ofDrew.heap hbox (by simp [hNc, hNb, hNq])) rfl))
  clear hstep h0 h1
  have hcw1 : Ch [pc, bw, q, p] w w1 := (hch0.mono (by simp)).trans (hc1.ofDrew.mono (by simp))
  have hown1 := ownsRow_ch hown hcw1 (by
    intro g hg
    rw [hg] at n1 n2 n3 n4
    simp only [Option.toList_some, List.mem_singleton] at n1 n2 n3 n4
    simp only [List.mem_cons, List.not_mem_nil, or_false]
    omega)
  clear e1 e2
  have hon := on_step w1 p q bl n B _ vv _ vals hP1 hT1 hown1 hn (Nat.le_trans hB hcw1.size) nx
    (fun w2 hc2 => hnext w2 ((hcw1.mono (by intro z hz; exact List.mem_append_left _ hz)).trans (hc2.mono (by
      intro z hz
      rcases List.mem_cons.1 hz with rfl | hz
      · simp
      · exact List.mem_append_right _ hz))))
    (fun q' e => by
      obtain ⟨hne, r, u, bv', h⟩ := hnx q' e
      exact ⟨r, u, bv', h.ch hcw1 (by
        have a1 : q' ≠ pc := ne_type h hC.hc (by decide)
        have a2 : q' ≠ bw := ne_type h hC.hw (by decide)
        have a3 : q' ≠ p := ne_type h hT (by decide)
        simp [a1, a2, a3, hne])⟩)
  go_wp2_with (go_at_call 49; refine hon.mono ?_; rintro e w2 ⟨rfl, g, cap, hT2, hown2, hc2, hg⟩)
  go_ret
  have hc3 : Ch ([pc, bw, q, p] ++ vv.ownBlock.toList) w w2 := (hcw1.mono (by intro z hz; exact List.mem_append_left _ hz)).trans (hc2.mono (by
      intro z hz
      rcases List.mem_cons.1 hz with rfl | hz
      · simp
      · exact List.mem_append_right _ hz))
  refine ⟨rfl, ?_, g, cap, hT2, hown2, hc3, hg.imp id (fun e => Nat.le_trans hcw1.size e)⟩
  exact hC1.ch hc2 (by simp [n1, hpc.symm]) (by simp [n2, hpb.symm])
end Go.Proofs.Ytejedbknpjffkaa
