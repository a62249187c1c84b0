/- Machines and their threads, on objects that are known whole: thread, Done, Can, the step past a task that is done; conditions: the blocks are known. -/
import Derived.Test.YtejedbknpjffkaaC
import Derived.Deep.RegionLaw
import Derived.Deep.AppendLies
namespace Go.Proofs.Ytejedbknpjffkaa
open Go.RowKit

/-- A machine: the slice of its threads. -/
def MachAt (w : World) (pm : Nat) (tv : Value) : Prop := w.heap[pm]? = some (.cells #[tv] 94)
/-- A thread: its task, what hands out the next one, its values. -/
def ThreadAt (w : World) (p : Nat) (tk : Option Nat) (fv vv : Value) : Prop := w.heap[p]? = some (.cells #[ptrTo tk, fv, vv] 103)

theorem MachAt.c0 {w : World} {p : Nat} {tv : Value} (h : MachAt w p tv) : w.cell? ⟨p, 0, none⟩ = some tv := cell_of h rfl
theorem ThreadAt.c0 {w : World} {p : Nat} {tk : Option Nat} {fv vv : Value} (h : ThreadAt w p tk fv vv) : w.cell? ⟨p, 0, none⟩ = some (ptrTo tk) := cell_of h rfl
theorem ThreadAt.c1 {w : World} {p : Nat} {tk : Option Nat} {fv vv : Value} (h : ThreadAt w p tk fv vv) : w.cell? ⟨p, 1, none⟩ = some fv := cell_of h rfl
theorem ThreadAt.c2 {w : World} {p : Nat} {tk : Option Nat} {fv vv : Value} (h : ThreadAt w p tk fv vv) : w.cell? ⟨p, 2, none⟩ = some vv := cell_of h rfl
theorem ThreadAt.ch {ms : List Nat} {w w' : World} {p : Nat} {tk : Option Nat} {fv vv : Value} (h : ThreadAt w p tk fv vv) (k : Ch ms w w') (hm : p ∉ ms) : ThreadAt w' p tk fv vv := k.heap h hm
theorem MachAt.ch {ms : List Nat} {w w' : World} {p : Nat} {tv : Value} (h : MachAt w p tv) (k : Ch ms w w') (hm : p ∉ ms) : MachAt w' p tv := k.heap h hm

@[go_sem] theorem len92 (w : World) (a : Option Addr) (n c : Nat) : (Builtin.len_ #[92] 3 #[.slice a n c]).run Try.prog w = .ok (.int .i64 n) w := by kernel_rfl
@[go_sem] theorem len30 (w : World) (a : Option Addr) (n c : Nat) : (Builtin.len_ #[30] 3 #[.slice a n c]).run Try.prog w = .ok (.int .i64 n) w := by kernel_rfl
@[go_sem] theorem len35 (w : World) (a : Option Addr) (n c : Nat) : (Builtin.len_ #[35] 3 #[.slice a n c]).run Try.prog w = .ok (.int .i64 n) w := by kernel_rfl

theorem threads_any (w : World) (pm : Nat) (a : Option Addr) (n c : Nat) (h : MachAt w pm (.slice a n c)) : Calls Try.prog 82 #[.pointer (some ⟨pm, 0, none⟩)] w fun e w' => e = .returned (.int .i64 n) ∧ w = w' := by
  have h0 := h.c0
  go_enter Try.func82, Try.ntmps82
  go_wp2
  go_ret
  exact ⟨rfl, rfl⟩

theorem thread_out (w : World) (pm t : Nat) (a : Option Addr) (n c : Nat) (h : MachAt w pm (.slice a n c)) (ht : ¬ t < n) : Calls Try.prog 48 #[.pointer (some ⟨pm, 0, none⟩), .int .i64 t] w fun e w' => e = .returned (.pointer none) ∧ w = w' := by
  have h0 := h.c0
  have hb : decide ((t : Int) < 0) = false := by simp
  go_enter Try.func48, Try.ntmps48
  go_wp2_with (go_at_call 82; refine (threads_any _ _ _ _ _ h).mono ?_; rintro e w' ⟨rfl, rfl⟩)
  go_ret
  exact ⟨rfl, rfl⟩

theorem thread_done (w : World) (pm t g n c p : Nat) (fv vv : Value) (h : MachAt w pm (.slice (some ⟨g, 0, none⟩) n c)) (ht : t < n) (hr : w.cell? ⟨g, t, none⟩ = some (.pointer (some ⟨p, 0, none⟩))) (hT : ThreadAt w p none fv vv) :
    Calls Try.prog 48 #[.pointer (some ⟨pm, 0, none⟩), .int .i64 t] w fun e w' => e = .returned (.pointer none) ∧ w = w' := by
  have h0 := h.c0
  have h1 := hT.c0
  rw [ptrTo_none] at h1
  have hb : decide ((t : Int) < 0) = false := by simp
  go_enter Try.func48, Try.ntmps48
  go_wp2_with (go_at_call 82; refine (threads_any _ _ _ _ _ h).mono ?_; rintro e w' ⟨rfl, rfl⟩)
  go_ret
  exact ⟨rfl, rfl⟩

theorem thread_there (w : World) (pm t g n c p q : Nat) (fv vv : Value) (h : MachAt w pm (.slice (some ⟨g, 0, none⟩) n c)) (ht : t < n) (hr : w.cell? ⟨g, t, none⟩ = some (.pointer (some ⟨p, 0, none⟩))) (hT : ThreadAt w p (some q) fv vv) :
    Calls Try.prog 48 #[.pointer (some ⟨pm, 0, none⟩), .int .i64 t] w fun e w' => e = .returned (.pointer (some ⟨p, 0, none⟩)) ∧ w = w' := by
  have h0 := h.c0
  have h1 := hT.c0
  rw [ptrTo_some] at h1
  have hb : decide ((t : Int) < 0) = false := by simp
  go_enter Try.func48, Try.ntmps48
  go_wp2_with (go_at_call 82; refine (threads_any _ _ _ _ _ h).mono ?_; rintro e w' ⟨rfl, rfl⟩)
  go_ret
  exact ⟨rfl, rfl⟩

/-- Nothing to go past: no task. -/
theorem on_none (w : World) (p : Nat) (fv vv : Value) (hT : ThreadAt w p none fv vv) : Calls Try.prog 49 #[.pointer (some ⟨p, 0, none⟩)] w fun e w' => e = .returned (.tuple #[]) ∧ w = w' := by
  have h1 := hT.c0
  rw [ptrTo_none] at h1
  go_enter Try.func49, Try.ntmps49
  go_wp2_with fail
  refine wp_loop_rounds 1 ?_
  rw [rounds_succ]
  go_wp2
  go_end0
  exact ⟨rfl, rfl⟩

/-- Nothing to go past: a task that is not done. -/
theorem on_stays (w : World) (p q r : Nat) (u : Int) (fv vv bv : Value) (hT : ThreadAt w p (some q) fv vv) (hq : TaskAt w q (some r) u bv) : Calls Try.prog 49 #[.pointer (some ⟨p, 0, none⟩)] w fun e w' => e = .returned (.tuple #[]) ∧ w = w' := by
  have h1 := hT.c0
  rw [ptrTo_some] at h1
  go_enter Try.func49, Try.ntmps49
  go_wp2_with fail
  refine wp_loop_rounds 1 ?_
  rw [rounds_succ]
  go_wp2_with (go_at_call 67; refine (done_any _ _ _ _ _ hq).mono ?_; rintro e w' ⟨rfl, rfl⟩)
  go_end0
  exact ⟨rfl, rfl⟩

end Go.Proofs.Ytejedbknpjffkaa
