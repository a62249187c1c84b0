/- The small functions of package task on objects that are known whole: Done, Value, Parked, Can, Ready, One; conditions: the object's block, and its point's, are known. -/
import Derived.Test.YtejedbknpjffkaaA
namespace Go.Proofs.Ytejedbknpjffkaa
open Go.RowKit

/-- A pointer to the block b, or none. -/
def ptrTo (b : Option Nat) : Value := .pointer (b.map fun x => ⟨x, 0, none⟩)
@[simp, go_sem] theorem ptrTo_some (b : Nat) : ptrTo (some b) = .pointer (some ⟨b, 0, none⟩) := rfl
@[simp, go_sem] theorem ptrTo_none : ptrTo none = .pointer none := rfl

/-- A task: its point, its value, what comes behind. -/
def TaskAt (w : World) (p : Nat) (pt : Option Nat) (v : Int) (bv : Value) : Prop := w.heap[p]? = some (.cells #[ptrTo pt, .int .i64 v, bv] 144)
/-- A point: an operation, or a parking. -/
def PointAt (w : World) (p : Nat) (fv : Value) (park : Option Nat) (who : Int) (timed : Bool) : Prop := w.heap[p]? = some (.cells #[fv, ptrTo park, .int .i64 who, .bool timed] 146)

theorem TaskAt.c0 {w : World} {p : Nat} {pt : Option Nat} {v : Int} {bv : Value} (h : TaskAt w p pt v bv) : w.cell? ⟨p, 0, none⟩ = some (ptrTo pt) := cell_of h rfl
theorem TaskAt.c1 {w : World} {p : Nat} {pt : Option Nat} {v : Int} {bv : Value} (h : TaskAt w p pt v bv) : w.cell? ⟨p, 1, none⟩ = some (.int .i64 v) := cell_of h rfl
theorem TaskAt.c2 {w : World} {p : Nat} {pt : Option Nat} {v : Int} {bv : Value} (h : TaskAt w p pt v bv) : w.cell? ⟨p, 2, none⟩ = some bv := cell_of h rfl
theorem TaskAt.fz {w : World} {p : Nat} {pt : Option Nat} {v : Int} {bv : Value} (h : TaskAt w p pt v bv) (i : Nat) : w.frozen? ⟨p, i, none⟩ = false := fz_of h
theorem TaskAt.ch {ms : List Nat} {w w' : World} {p : Nat} {pt : Option Nat} {v : Int} {bv : Value} (h : TaskAt w p pt v bv) (k : Ch ms w w') (hm : p ∉ ms) : TaskAt w' p pt v bv := k.heap h hm
theorem PointAt.c0 {w : World} {p : Nat} {fv : Value} {park : Option Nat} {who : Int} {timed : Bool} (h : PointAt w p fv park who timed) : w.cell? ⟨p, 0, none⟩ = some fv := cell_of h rfl
theorem PointAt.c1 {w : World} {p : Nat} {fv : Value} {park : Option Nat} {who : Int} {timed : Bool} (h : PointAt w p fv park who timed) : w.cell? ⟨p, 1, none⟩ = some (ptrTo park) := cell_of h rfl
theorem PointAt.c2 {w : World} {p : Nat} {fv : Value} {park : Option Nat} {who : Int} {timed : Bool} (h : PointAt w p fv park who timed) : w.cell? ⟨p, 2, none⟩ = some (.int .i64 who) := cell_of h rfl
theorem PointAt.c3 {w : World} {p : Nat} {fv : Value} {park : Option Nat} {who : Int} {timed : Bool} (h : PointAt w p fv park who timed) : w.cell? ⟨p, 3, none⟩ = some (.bool timed) := cell_of h rfl
theorem PointAt.ch {ms : List Nat} {w w' : World} {p : Nat} {fv : Value} {park : Option Nat} {who : Int} {timed : Bool} (h : PointAt w p fv park who timed) (k : Ch ms w w') (hm : p ∉ ms) : PointAt w' p fv park who timed := k.heap h hm

theorem done_nil (w : World) : Calls Try.prog 67 #[.pointer none] w fun e w' => e = .returned (.bool true) ∧ w = w' := by
  go_enter Try.func67, Try.ntmps67
  go_wp2
  go_ret
  exact ⟨rfl, rfl⟩

theorem done_any (w : World) (p : Nat) (pt : Option Nat) (v : Int) (bv : Value) (h : TaskAt w p pt v bv) : Calls Try.prog 67 #[.pointer (some ⟨p, 0, none⟩)] w fun e w' => e = .returned (.bool pt.isNone) ∧ w = w' := by
  have h0 := h.c0
  cases pt with
  | none =>
    rw [ptrTo_none] at h0
    go_enter Try.func67, Try.ntmps67
    go_wp2
    go_ret
    exact ⟨rfl, rfl⟩
  | some q =>
    rw [ptrTo_some] at h0
    go_enter Try.func67, Try.ntmps67
    go_wp2
    go_ret
    exact ⟨rfl, rfl⟩

theorem value_nil (w : World) : Calls Try.prog 68 #[.pointer none] w fun e w' => e = .returned (.int .i64 0) ∧ w = w' := by
  go_enter Try.func68, Try.ntmps68
  go_wp2
  go_ret
  exact ⟨rfl, rfl⟩

theorem value_any (w : World) (p : Nat) (pt : Option Nat) (v : Int) (bv : Value) (h : TaskAt w p pt v bv) : Calls Try.prog 68 #[.pointer (some ⟨p, 0, none⟩)] w fun e w' => e = .returned (.int .i64 (if pt.isNone then v else 0)) ∧ w = w' := by
  have h0 := h.c0
  have h1 := h.c1
  cases pt with
  | none =>
    rw [ptrTo_none] at h0
    go_enter Try.func68, Try.ntmps68
    go_wp2
    go_ret
    exact ⟨rfl, rfl⟩
  | some q =>
    rw [ptrTo_some] at h0
    go_enter Try.func68, Try.ntmps68
    go_wp2
    go_ret
    exact ⟨rfl, rfl⟩

theorem ready_any (v : Int) (w : World) : Calls Try.prog 47 #[.int .i64 v] w fun e w' => e = .returned (.pointer (some ⟨w.heap.size, 0, none⟩)) ∧ w.alloc (.cells #[.pointer none, .int .i64 v, .slice none 0 0] 144) = w' := by
  go_enter Try.func47, Try.ntmps47
  go_wp2
  go_ret
  exact ⟨rfl, rfl⟩

@[go_sem] theorem eql50_fn (w : World) (f : Fn) (a c : Array Value) : (binOp .eql 50 (.func f a c) .nilFunc).run Try.prog w = .ok (.bool false) w := by kernel_rfl
@[go_sem] theorem eql50_nil (w : World) : (binOp .eql 50 .nilFunc .nilFunc).run Try.prog w = .ok (.bool true) w := by kernel_rfl
@[go_sem] theorem eql99_fn (w : World) (f : Fn) (a c : Array Value) : (binOp .eql 99 (.func f a c) .nilFunc).run Try.prog w = .ok (.bool false) w := by kernel_rfl

/-- A function value that is there. -/
def fnVal (f : Nat) (cap : Array Value) : Value := .func (.func f) #[] cap

theorem one_any (f : Nat) (cap : Array Value) (w : World) : Calls Try.prog 41 #[.func (.func f) #[] cap] w fun e w' => e = .returned (.pointer (some ⟨w.heap.size + 1, 0, none⟩)) ∧
    (w.alloc (.cells #[.func (.func f) #[] cap, .pointer none, .int .i64 0, .bool false] 146)).alloc (.cells #[.pointer (some ⟨w.heap.size, 0, none⟩), .int .i64 0, .slice none 0 0] 144) = w' := by
  go_enter Try.func41, Try.ntmps41
  go_wp2
  go_ret
  exact ⟨rfl, rfl⟩

theorem parked_done (w : World) (p : Nat) (v : Int) (bv : Value) (h : TaskAt w p none v bv) : Calls Try.prog 74 #[.pointer (some ⟨p, 0, none⟩)] w fun e w' => e = .returned (.bool false) ∧ w = w' := by
  go_enter Try.func74, Try.ntmps74
  go_wp2_with (go_at_call 67; refine (done_any _ _ _ _ _ h).mono ?_; rintro e w' ⟨rfl, rfl⟩)
  go_ret
  exact ⟨rfl, rfl⟩

theorem parked_no (w : World) (p q : Nat) (v : Int) (bv : Value) (f : Nat) (cap : Array Value) (park : Option Nat) (who : Int) (timed : Bool) (h : TaskAt w p (some q) v bv) (hq : PointAt w q (.func (.func f) #[] cap) park who timed) :
    Calls Try.prog 74 #[.pointer (some ⟨p, 0, none⟩)] w fun e w' => e = .returned (.bool false) ∧ w = w' := by
  have h0 := h.c0
  have h1 := hq.c0
  rw [ptrTo_some] at h0
  go_enter Try.func74, Try.ntmps74
  go_wp2_with (go_at_call 67; refine (done_any _ _ _ _ _ h).mono ?_; rintro e w' ⟨rfl, rfl⟩)
  go_ret
  exact ⟨rfl, rfl⟩

theorem parked_yes (w : World) (p q : Nat) (v : Int) (bv : Value) (park : Option Nat) (who : Int) (timed : Bool) (h : TaskAt w p (some q) v bv) (hq : PointAt w q .nilFunc park who timed) :
    Calls Try.prog 74 #[.pointer (some ⟨p, 0, none⟩)] w fun e w' => e = .returned (.bool true) ∧ w = w' := by
  have h0 := h.c0
  have h1 := hq.c0
  rw [ptrTo_some] at h0
  go_enter Try.func74, Try.ntmps74
  go_wp2_with (go_at_call 67; refine (done_any _ _ _ _ _ h).mono ?_; rintro e w' ⟨rfl, rfl⟩)
  go_ret
  exact ⟨rfl, rfl⟩

theorem can_done (w : World) (p : Nat) (v k : Int) (bv : Value) (h : TaskAt w p none v bv) : Calls Try.prog 76 #[.pointer (some ⟨p, 0, none⟩), .int .i64 k] w fun e w' => e = .returned (.bool false) ∧ w = w' := by
  go_enter Try.func76, Try.ntmps76
  go_wp2_with (go_at_call 67; refine (done_any _ _ _ _ _ h).mono ?_; rintro e w' ⟨rfl, rfl⟩)
  go_ret
  exact ⟨rfl, rfl⟩

theorem can_op (w : World) (p q : Nat) (v k : Int) (bv : Value) (f : Nat) (cap : Array Value) (park : Option Nat) (who : Int) (timed : Bool) (h : TaskAt w p (some q) v bv) (hq : PointAt w q (.func (.func f) #[] cap) park who timed) :
    Calls Try.prog 76 #[.pointer (some ⟨p, 0, none⟩), .int .i64 k] w fun e w' => e = .returned (.bool (k == 0)) ∧ w = w' := by
  go_enter Try.func76, Try.ntmps76
  go_wp2_with (first | (go_at_call 67; refine (done_any _ _ _ _ _ h).mono ?_; rintro e w' ⟨rfl, rfl⟩) | (go_at_call 74; refine (parked_no _ _ _ _ _ _ _ _ _ _ h hq).mono ?_; rintro e w' ⟨rfl, rfl⟩))
  go_ret
  exact ⟨rfl, rfl⟩

end Go.Proofs.Ytejedbknpjffkaa
