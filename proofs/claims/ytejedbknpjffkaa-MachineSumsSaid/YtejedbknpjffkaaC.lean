/- A task that adds to a cell: what it is made of, and what its one step does; conditions: its blocks, the cells' blocks are known, and are not one another. -/
import Derived.Test.YtejedbknpjffkaaB
namespace Go.Proofs.Ytejedbknpjffkaa
open Go.RowKit

@[go_sem] theorem len142 (w : World) (a : Option Addr) (n c : Nat) : (Builtin.len_ #[142] 3 #[.slice a n c]).run Try.prog w = .ok (.int .i64 n) w := by kernel_rfl

theorem end_nil (w : World) (p : Nat) (pt : Option Nat) (u v : Int) (h : TaskAt w p pt u (.slice none 0 0)) :
    Calls Try.prog 80 #[.pointer (some ⟨p, 0, none⟩), .int .i64 v] w fun e w' => e = .returned (.tuple #[]) ∧ TaskAt w' p none v (.slice none 0 0) ∧ Ch [p] w w' := by
  have h0 := h.c0
  have h1 := h.c1
  have h2 := h.c2
  have f0 := h.fz 0
  have f1 := h.fz 1
  have q1 : (w.setCell ⟨p, 0, none⟩ (.pointer none)).cell? ⟨p, 1, none⟩ = some (.int .i64 u) := (World.cell?_setCell_other w _ _ _ (by simp)).trans h1
  go_enter Try.func80, Try.ntmps80
  go_wp2_with fail
  refine wp_loop_rounds 1 ?_
  rw [rounds_succ]
  go_wp2
  go_end0
  refine ⟨rfl, ?_, ?_⟩
  · exact st_same (st_same h _) _
  · exact ((Ch.refl _ w).setCell (by simp) _).setCell (by simp) _

/-- A task that adds d to the cell i, not yet begun: its block, and what it leads to. -/
structure FreshAdd (w : World) (p pc : Nat) (i : Nat) (d : Int) (pp b0 b1 b2 : Nat) : Prop where
  task : TaskAt w p (some pp) 0 (.slice none 0 0)
  point : PointAt w pp (.func (.func 42) #[] #[.pointer (some ⟨b0, 0, none⟩), .pointer (some ⟨b1, 0, none⟩), .pointer (some ⟨b2, 0, none⟩)]) none 0 false
  h0 : Box w b0 25 (.pointer (some ⟨pc, 0, none⟩))
  h1 : Box w b1 3 (.int .i64 i)
  h2 : Box w b2 29 (.int .u64 d)

theorem FreshAdd.ch {ms : List Nat} {w w' : World} {p pc i : Nat} {d : Int} {pp b0 b1 b2 : Nat} (h : FreshAdd w p pc i d pp b0 b1 b2) (k : Ch ms w w') (hm : p ∉ ms ∧ pp ∉ ms ∧ b0 ∉ ms ∧ b1 ∉ ms ∧ b2 ∉ ms) : FreshAdd w' p pc i d pp b0 b1 b2 :=
  ⟨h.task.ch k hm.1, h.point.ch k hm.2.1, h.h0.ch k hm.2.2.1, h.h1.ch k hm.2.2.2.1, h.h2.ch k hm.2.2.2.2⟩

theorem task_add (pc i : Nat) (d : Int) (w : World) :
    Calls Try.prog 12 #[.pointer (some ⟨pc, 0, none⟩), .int .i64 i, .int .u64 d] w fun e w' =>
      e = .returned (.pointer (some ⟨w.heap.size + 4, 0, none⟩)) ∧ FreshAdd w' (w.heap.size + 4) pc i d (w.heap.size + 3) w.heap.size (w.heap.size + 1) (w.heap.size + 2) ∧ Ch [] w w' ∧ w'.heap.size = w.heap.size + 5 := by
  go_enter Try.func12, Try.ntmps12
  go_wp2_with (go_at_call 41; refine (one_any _ _ _).mono ?_; rintro e w' ⟨rfl, rfl⟩)
  go_ret
  refine ⟨by simp, ⟨?_, ?_, ?_, ?_, ?_⟩, (((((Ch.refl _ w).alloc _).alloc _).alloc _).alloc _).alloc _, by simp⟩
  · have := al_new (w := ((((w.alloc (.cells #[.pointer (some ⟨pc, 0, none⟩)] 25)).alloc (.cells #[.int .i64 i] 3)).alloc (.cells #[.int .u64 d] 29)).alloc (.cells #[.func (.func 42) #[] #[.pointer (some ⟨w.heap.size, 0, none⟩), .pointer (some ⟨w.heap.size + 1, 0, none⟩), .pointer (some ⟨w.heap.size + 1 + 1, 0, none⟩)], .pointer none, .int .i64 0, .bool false] 146))) (n := w.heap.size + 4) (by simp) (.cells #[.pointer (some ⟨w.heap.size + 1 + 1 + 1, 0, none⟩), .int .i64 0, .slice none 0 0] 144)
    simpa [TaskAt] using this
  · exact al (al_new (by simp) _) _
  · exact al (al (al (al (al_new rfl _) _) _) _) _
  · exact al (al (al (al_new (by simp) _) _) _) _
  · exact al (al (al_new (by simp) _) _) _

set_option maxHeartbeats 400000 in
theorem add_do (pc bw i b0 b1 b2 : Nat) (xs : List Int) (d st : Int) (w : World) (hi : i < xs.length) (hC : CellsAt w pc bw xs st)
    (h0 : Box w b0 25 (.pointer (some ⟨pc, 0, none⟩))) (h1 : Box w b1 3 (.int .i64 i)) (h2 : Box w b2 29 (.int .u64 d)) :
    Calls Try.prog 42 #[.pointer (some ⟨b0, 0, none⟩), .pointer (some ⟨b1, 0, none⟩), .pointer (some ⟨b2, 0, none⟩)] w fun e w' =>
      e = .returned (.int .i64 (wrap64 (IntKind.u64.wrap (xs[i] + d)))) ∧ CellsAt w' pc bw (xs.set i (IntKind.u64.wrap (xs[i] + d))) (wrap64 (st + 1)) ∧ Ch [pc, bw] w w' := by
  have c0 := h0.cell
  have c1 := h1.cell
  have c2 := h2.cell
  go_enter Try.func42, Try.ntmps42
  go_wp2_with (go_at_call 43; refine (cells_add pc bw i xs st d _ hi hC).mono ?_; rintro e w' ⟨rfl, hq⟩)
  go_ret
  exact ⟨rfl, hq⟩


theorem ne_type {w : World} {a b : Nat} {c d : Array Value} {s t : TypeId} {f g : Nat × Nat} (ha : w.heap[a]? = some (.cells c s f)) (hb : w.heap[b]? = some (.cells d t g)) (h : s ≠ t) : a ≠ b := by
  rintro rfl
  rw [ha] at hb
  exact h (by simpa using congrArg (fun o : Option Obj => match o with | some (.cells _ x _) => x | _ => 0) hb)

set_option maxHeartbeats 400000 in
theorem step_add (p pc bw i pp b0 b1 b2 : Nat) (xs : List Int) (d st : Int) (w : World) (hi : i < xs.length) (hC : CellsAt w pc bw xs st) (hF : FreshAdd w p pc i d pp b0 b1 b2) :
    Calls Try.prog 35 #[.pointer (some ⟨p, 0, none⟩), .int .i64 0] w fun e w' =>
      e = .returned (.bool true) ∧ CellsAt w' pc bw (xs.set i (IntKind.u64.wrap (xs[i] + d))) (wrap64 (st + 1)) ∧ TaskAt w' p none (wrap64 (IntKind.u64.wrap (xs[i] + d))) (.slice none 0 0) ∧ Ch [pc, bw, p] w w' := by
  have h0 := hF.task.c0
  rw [ptrTo_some] at h0
  have h1 := hF.point.c0
  have hpc : p ≠ pc := ne_type hF.task hC.hc (by decide)
  have hpb : p ≠ bw := ne_type hF.task hC.hw (by decide)
  have he : ∀ w, (callFunc 42 #[.pointer (some ⟨b0, 0, none⟩), .pointer (some ⟨b1, 0, none⟩), .pointer (some ⟨b2, 0, none⟩)]).run Try.prog w = .ok (.enter 42 #[.pointer (some ⟨b0, 0, none⟩), .pointer (some ⟨b1, 0, none⟩), .pointer (some ⟨b2, 0, none⟩)]) w := fun _ => by kernel_rfl
  go_enter Try.func35, Try.ntmps35
  go_wp2_with (first | (go_at_call 76; refine (can_op _ _ _ _ _ _ _ _ _ _ _ hF.task hF.point).mono ?_; rintro e w' ⟨rfl, rfl⟩) | (go_at_call 74; refine (parked_no _ _ _ _ _ _ _ _ _ _ hF.task hF.point).mono ?_; rintro e w' ⟨rfl, rfl⟩))
  refine (add_do pc bw i b0 b1 b2 xs d st _ hi hC hF.h0 hF.h1 hF.h2).mono ?_
  rintro e w1 ⟨rfl, hC', hch⟩
  go_wp2_with (go_at_call 80; refine (end_nil _ p _ _ _ (hF.task.ch hch (by simp [hpc, hpb]))).mono ?_; rintro e w2 ⟨rfl, hT, hch2⟩)
  go_ret
  exact ⟨rfl, hC'.ch hch2 (by simpa using hpc.symm) (by simpa using hpb.symm), hT, (hch.mono (by simp)).trans (hch2.mono (by simp))⟩

set_option maxHeartbeats 400000 in
theorem step_op_no (w : World) (p q : Nat) (v k : Int) (bv : Value) (f : Nat) (cap : Array Value) (park : Option Nat) (who : Int) (timed : Bool) (h : TaskAt w p (some q) v bv) (hq : PointAt w q (.func (.func f) #[] cap) park who timed) (hk : (k == 0) = false) :
    Calls Try.prog 35 #[.pointer (some ⟨p, 0, none⟩), .int .i64 k] w fun e w' => e = .returned (.bool false) ∧ w = w' := by
  go_enter Try.func35, Try.ntmps35
  go_wp2_with (first | (go_at_call 76; refine (can_op _ _ _ _ _ _ _ _ _ _ _ h hq).mono ?_; rintro e w' ⟨rfl, rfl⟩))
  go_ret
  exact ⟨rfl, rfl⟩

theorem step_done (w : World) (p : Nat) (v k : Int) (bv : Value) (h : TaskAt w p none v bv) :
    Calls Try.prog 35 #[.pointer (some ⟨p, 0, none⟩), .int .i64 k] w fun e w' => e = .returned (.bool false) ∧ w = w' := by
  go_enter Try.func35, Try.ntmps35
  go_wp2_with (first | (go_at_call 76; refine (can_done _ _ _ _ _ h).mono ?_; rintro e w' ⟨rfl, rfl⟩))
  go_ret
  exact ⟨rfl, rfl⟩

end Go.Proofs.Ytejedbknpjffkaa
