/- Frames of change on the heap, and the contracts of package cells over a row of words; conditions: the cells are laid in two blocks that are known whole. -/
import Derived.Test.YtejedbknpjffkaaProg
import Derived.WalkKit
import Derived.WalkSpells
import Derived.StillTactics
import Derived.Laws.Pointers
import Derived.Deep.RegionHeld3
import Derived.Deep.QuietTactic
import Derived.BigQuiet
import Derived.KernelRfl
namespace Go.Proofs.Ytejedbknpjffkaa
open Go.RowKit

/-- Of the blocks that were there only those of ms may have turned. -/
structure Ch (ms : List Nat) (w w' : World) : Prop where
  os : w'.os = w.os
  tape : w'.tape = w.tape
  output : w'.output = w.output
  size : w.heap.size ≤ w'.heap.size
  block : ∀ k, k < w.heap.size → k ∉ ms → w'.heap[k]? = w.heap[k]?

theorem Ch.refl (ms : List Nat) (w : World) : Ch ms w w := ⟨rfl, rfl, rfl, Nat.le_refl _, fun _ _ _ => rfl⟩

theorem Ch.trans {ms : List Nat} {a b c : World} (h : Ch ms a b) (k : Ch ms b c) : Ch ms a c :=
  ⟨k.os.trans h.os, k.tape.trans h.tape, k.output.trans h.output, Nat.le_trans h.size k.size, fun i hi hm => (k.block i (Nat.lt_of_lt_of_le hi h.size) hm).trans (h.block i hi hm)⟩

theorem Ch.mono {ms ms' : List Nat} {a b : World} (h : Ch ms a b) (hm : ∀ k, k ∈ ms → k ∈ ms') : Ch ms' a b :=
  ⟨h.os, h.tape, h.output, h.size, fun i hi hn => h.block i hi (fun e => hn (hm i e))⟩

/-- A second step that turns blocks of ms or new ones. -/
theorem Ch.trans' {ms ns : List Nat} {a b c : World} (h : Ch ms a b) (k : Ch ns b c) (hn : ∀ i, i ∈ ns → i ∈ ms ∨ a.heap.size ≤ i) : Ch ms a c :=
  ⟨k.os.trans h.os, k.tape.trans h.tape, k.output.trans h.output, Nat.le_trans h.size k.size, fun i hi hm =>
    (k.block i (Nat.lt_of_lt_of_le hi h.size) (fun e => (hn i e).elim hm (fun e' => by omega))).trans (h.block i hi hm)⟩

theorem Ch.drew {ms : List Nat} {a b : World} (h : Ch ms a b) : Ch ms a b.drew := ⟨h.os, h.tape, h.output, h.size, h.block⟩

theorem Ch.alloc {ms : List Nat} {a b : World} (h : Ch ms a b) (o : Obj) : Ch ms a (b.alloc o) :=
  ⟨h.os, h.tape, h.output, by have := h.size; simp; omega, fun k hk hm => (Below.heap_alloc _ _ _ (Nat.lt_of_lt_of_le hk h.size)).trans (h.block k hk hm)⟩

theorem Ch.setCell {ms : List Nat} {a b : World} (h : Ch ms a b) {p : Addr} (hp : p.block ∈ ms ∨ a.heap.size ≤ p.block) (u : Value) : Ch ms a (b.setCell p u) :=
  ⟨h.os, h.tape, h.output, by have := h.size; simp; omega, fun k hk hm => (Below.heap_setCell _ _ _ _ (fun e => hp.elim (fun x => hm (by rw [e]; exact x)) (fun x => by omega))).trans (h.block k hk hm)⟩

theorem Ch.heap {ms : List Nat} {a b : World} (h : Ch ms a b) {k : Nat} {o : Obj} (hk : a.heap[k]? = some o) (hm : k ∉ ms) : b.heap[k]? = some o :=
  (h.block k (Array.getElem?_eq_some_iff.1 hk).1 hm).trans hk

theorem Ch.below {a b : World} (h : Ch [] a b) : Below a.heap.size a b := ⟨h.os, h.tape, h.output, h.size, fun k hk => h.block k hk (by simp)⟩

theorem lt_of_heap {w : World} {k : Nat} {o : Obj} (h : w.heap[k]? = some o) : k < w.heap.size := (Array.getElem?_eq_some_iff.1 h).1

theorem cell_of {w : World} {b i : Nat} {cs : Array Value} {t : TypeId} {fz : Nat × Nat} {v : Value} (h : w.heap[b]? = some (.cells cs t fz)) (hv : cs[i]? = some v) : w.cell? ⟨b, i, none⟩ = some v := by
  simp [World.cell?, h, hv]

theorem fz_of {w : World} {b i : Nat} {cs : Array Value} {t : TypeId} (h : w.heap[b]? = some (.cells cs t (0, 0))) : w.frozen? ⟨b, i, none⟩ = false := by
  simp [World.frozen?, h]

theorem heap_alloc (w : World) (o : Obj) (k : Nat) : (w.alloc o).heap[k]? = if k = w.heap.size then some o else w.heap[k]? := by
  show (w.heap.push o)[k]? = _
  rw [Array.getElem?_push]

theorem heap_setCell {w : World} {b i k : Nat} {v : Value} {cs : Array Value} {t : TypeId} {fz : Nat × Nat} (h : w.heap[b]? = some (.cells cs t fz)) :
    (w.setCell ⟨b, i, none⟩ v).heap[k]? = if k = b then some (.cells (cs.setIfInBounds i v) t fz) else w.heap[k]? := by
  simp only [World.setCell, Array.getElem?_modify]
  by_cases e : b = k
  · subst e; simp [h]
  · rw [if_neg e, if_neg (fun x => e x.symm)]

/-- Cells over a row of words: the block of the struct, the block of the words, what they hold, and how many operations were done. -/
structure CellsAt (w : World) (pc bw : Nat) (xs : List Int) (st : Int) : Prop where
  hc : w.heap[pc]? = some (.cells #[.iface 91 (.slice (some ⟨bw, 0, none⟩) xs.length xs.length), .int .i64 st] 113)
  hw : w.heap[bw]? = some (.cells (xs.map (Value.int .u64 ·)).toArray 29)
  ne : pc ≠ bw
  ok : ∀ x ∈ xs, 0 ≤ x ∧ x < 18446744073709551616
  few : xs.length ≤ 16777216

theorem CellsAt.ch {ms : List Nat} {w w' : World} {pc bw : Nat} {xs : List Int} {st : Int} (h : CellsAt w pc bw xs st) (k : Ch ms w w') (h1 : pc ∉ ms) (h2 : bw ∉ ms) : CellsAt w' pc bw xs st :=
  ⟨k.heap h.hc h1, k.heap h.hw h2, h.ne, h.ok, h.few⟩

theorem words_len (a : Option Addr) (n c : Nat) (w : World) : Calls Try.prog 152 #[.slice a n c] w fun e w' => e = .returned (.int .i64 n) ∧ w = w' := by
  go_enter Try.func152, Try.ntmps152
  go_wp2
  go_ret
  exact ⟨rfl, rfl⟩


theorem words_load (b n i : Nat) (x : Int) (w : World) (hi : i < n) (hc : w.cell? ⟨b, i, none⟩ = some (.int .u64 x)) :
    Calls Try.prog 153 #[.slice (some ⟨b, 0, none⟩) n n, .int .i64 i] w fun e w' => e = .returned (.int .u64 x) ∧ w = w' := by
  go_enter Try.func153, Try.ntmps153
  go_wp2
  go_ret
  exact ⟨rfl, rfl⟩

theorem words_store (b n i : Nat) (x y : Int) (w : World) (hi : i < n) (hc : w.cell? ⟨b, i, none⟩ = some (.int .u64 x)) (hf : w.frozen? ⟨b, i, none⟩ = false) :
    Calls Try.prog 154 #[.slice (some ⟨b, 0, none⟩) n n, .int .i64 i, .int .u64 y] w fun e w' => e = .returned (.tuple #[]) ∧ w.setCell ⟨b, i, none⟩ (.int .u64 y) = w' := by
  go_enter Try.func154, Try.ntmps154
  go_wp2
  go_end0
  exact ⟨rfl, rfl⟩

theorem words_add (b n i : Nat) (x y : Int) (w : World) (hi : i < n) (hc : w.cell? ⟨b, i, none⟩ = some (.int .u64 x)) (hf : w.frozen? ⟨b, i, none⟩ = false) :
    Calls Try.prog 151 #[.slice (some ⟨b, 0, none⟩) n n, .int .i64 i, .int .u64 y] w fun e w' => e = .returned (.int .u64 (IntKind.u64.wrap (x + y))) ∧ w.setCell ⟨b, i, none⟩ (.int .u64 (IntKind.u64.wrap (x + y))) = w' := by
  have h2 := World.cell?_setCell_same w ⟨b, i, none⟩ (.int .u64 (IntKind.u64.wrap (x + y))) hc
  go_enter Try.func151, Try.ntmps151
  go_wp2
  go_ret
  exact ⟨rfl, rfl⟩

theorem words_swap_yes (b n i : Nat) (x y : Int) (w : World) (hi : i < n) (hc : w.cell? ⟨b, i, none⟩ = some (.int .u64 x)) (hf : w.frozen? ⟨b, i, none⟩ = false) :
    Calls Try.prog 155 #[.slice (some ⟨b, 0, none⟩) n n, .int .i64 i, .int .u64 x, .int .u64 y] w fun e w' => e = .returned (.bool true) ∧ w.setCell ⟨b, i, none⟩ (.int .u64 y) = w' := by
  go_enter Try.func155, Try.ntmps155
  go_wp2
  go_ret
  exact ⟨rfl, rfl⟩

theorem words_swap_no (b n i : Nat) (x o y : Int) (w : World) (hi : i < n) (hc : w.cell? ⟨b, i, none⟩ = some (.int .u64 x)) (hne : (x == o) = false) :
    Calls Try.prog 155 #[.slice (some ⟨b, 0, none⟩) n n, .int .i64 i, .int .u64 o, .int .u64 y] w fun e w' => e = .returned (.bool false) ∧ w = w' := by
  go_enter Try.func155, Try.ntmps155
  go_wp2
  go_ret
  exact ⟨rfl, rfl⟩


@[go_sem] theorem hmf : ∀ (fn : Fn) (first cap : Array Value) (w : World), (Instr.makeFunc fn first cap).run Try.prog w = .ok (.func fn first cap) w := fun _ _ _ _ => rfl
@[go_sem] theorem hnot : ∀ (x : Bool) (w : World), (Op.unary .not (.bool x)).run Try.prog w = .ok (.bool (!x)) w := fun _ _ => rfl
@[go_sem] theorem m_add (bw n : Nat) (w : World) : (method 305 91 (.slice (some ⟨bw, 0, none⟩) n n) "Add").run Try.prog w = .ok (151, .slice (some ⟨bw, 0, none⟩) n n) w := by kernel_rfl
@[go_sem] theorem m_len (bw n : Nat) (w : World) : (method 305 91 (.slice (some ⟨bw, 0, none⟩) n n) "Len").run Try.prog w = .ok (152, .slice (some ⟨bw, 0, none⟩) n n) w := by kernel_rfl
@[go_sem] theorem m_load (bw n : Nat) (w : World) : (method 305 91 (.slice (some ⟨bw, 0, none⟩) n n) "Load").run Try.prog w = .ok (153, .slice (some ⟨bw, 0, none⟩) n n) w := by kernel_rfl
@[go_sem] theorem m_store (bw n : Nat) (w : World) : (method 305 91 (.slice (some ⟨bw, 0, none⟩) n n) "Store").run Try.prog w = .ok (154, .slice (some ⟨bw, 0, none⟩) n n) w := by kernel_rfl
@[go_sem] theorem m_swap (bw n : Nat) (w : World) : (method 305 91 (.slice (some ⟨bw, 0, none⟩) n n) "Swap").run Try.prog w = .ok (155, .slice (some ⟨bw, 0, none⟩) n n) w := by kernel_rfl

theorem cells_len (pc bw n : Nat) (w : World) (hc : w.cell? ⟨pc, 0, none⟩ = some (.iface 91 (.slice (some ⟨bw, 0, none⟩) n n))) :
    Calls Try.prog 87 #[.pointer (some ⟨pc, 0, none⟩)] w fun e w' => e = .returned (.int .i64 n) ∧ w = w' := by
  go_enter Try.func87, Try.ntmps87
  go_wp2_with (go_at_call 152; refine (words_len _ _ _ _).mono ?_; rintro e w' ⟨rfl, rfl⟩)
  go_ret
  exact ⟨rfl, rfl⟩

theorem atomic_add (b : Nat) (x y : Int) (w : World) (hc : w.cell? ⟨b, 1, none⟩ = some (.int .i64 x)) (hf : w.frozen? ⟨b, 1, none⟩ = false) :
    Calls Try.prog 88 #[.pointer (some ⟨b, 1, none⟩), .int .i64 y] w fun e w' => e = .returned (.int .i64 (wrap64 (x + y))) ∧ w.setCell ⟨b, 1, none⟩ (.int .i64 (wrap64 (x + y))) = w' := by
  have hadd := run_call_add (P := Try.prog) Try.func122 (by kernel_rfl) (by kernel_rfl) (by kernel_rfl) .i64 (by kernel_rfl) (y := y) (s := IntKind.i64.wrap (x + y)) hc hf (by simp [go_sem])
  go_enter Try.func88, Try.ntmps88
  go_wp2
  go_ret
  exact ⟨rfl, rfl⟩

/-- A number within an int's bounds is its own wrap. -/
theorem wrap_id {x : Int} (h0 : -9223372036854775808 ≤ x) (h1 : x ≤ 9223372036854775807) : wrap64 x = x := by unfold wrap64; omega

set_option maxHeartbeats 400000 in
/-- 'on': the cell is there; what is handed in is called behind the count. -/
theorem cells_on (pc bw n i f : Nat) (cap : Array Value) (st : Int) (w : World) (Q : World → Prop) (hi : i < n)
    (hc : w.cell? ⟨pc, 0, none⟩ = some (.iface 91 (.slice (some ⟨bw, 0, none⟩) n n))) (hs : w.cell? ⟨pc, 1, none⟩ = some (.int .i64 st)) (hf : w.frozen? ⟨pc, 1, none⟩ = false)
    (he : ∀ w, (callFunc f cap).run Try.prog w = .ok (.enter f cap) w)
    (hcalls : Calls Try.prog f cap (w.setCell ⟨pc, 1, none⟩ (.int .i64 (wrap64 (st + 1)))) fun e w' => e = .returned (.tuple #[]) ∧ Q w') :
    Calls Try.prog 50 #[.pointer (some ⟨pc, 0, none⟩), .int .i64 i, .func (.func f) #[] cap] w fun e w' => e = .returned (.bool true) ∧ Q w' := by
  go_enter Try.func50, Try.ntmps50
  go_wp2_with (first | (go_at_call 87; refine (cells_len pc bw n _ hc).mono ?_; rintro e w' ⟨rfl, rfl⟩) | (go_at_call 88; refine (atomic_add pc st 1 _ hs hf).mono ?_; rintro e w' ⟨rfl, rfl⟩) | (refine hcalls.mono ?_; rintro e w' ⟨rfl, hq⟩))
  go_ret
  exact ⟨rfl, hq⟩


@[go_sem, simp] theorem cell_setCell_blk {w : World} {b i k j : Nat} {v : Value} (h : ¬ b = k) : (w.setCell ⟨b, i, none⟩ v).cell? ⟨k, j, none⟩ = w.cell? ⟨k, j, none⟩ :=
  World.cell?_setCell_other w _ _ _ (by intro e; exact h (congrArg Addr.block e))

set_option maxHeartbeats 400000 in
theorem add_1 (pc bw n i b0 b1 b2 b3 : Nat) (x y u : Int) (w : World) (hi : i < n)
    (hc : w.cell? ⟨pc, 0, none⟩ = some (.iface 91 (.slice (some ⟨bw, 0, none⟩) n n)))
    (hx : w.cell? ⟨bw, i, none⟩ = some (.int .u64 x)) (hf : w.frozen? ⟨bw, i, none⟩ = false)
    (h0 : w.cell? ⟨b0, 0, none⟩ = some (.pointer (some ⟨pc, 0, none⟩))) (h1 : w.cell? ⟨b1, 0, none⟩ = some (.int .i64 i)) (h2 : w.cell? ⟨b2, 0, none⟩ = some (.int .u64 y))
    (h3 : w.cell? ⟨b3, 0, none⟩ = some (.int .u64 u)) (hf3 : w.frozen? ⟨b3, 0, none⟩ = false) (n0 : ¬ bw = b0) (n1 : ¬ bw = b1) (n2 : ¬ bw = b2) (n3 : ¬ bw = b3) (np : ¬ bw = pc)
    (m0 : ¬ b3 = b0) (m1 : ¬ b3 = b1) (m2 : ¬ b3 = b2) (mp : ¬ b3 = pc) :
    Calls Try.prog 85 #[.pointer (some ⟨b0, 0, none⟩), .pointer (some ⟨b1, 0, none⟩), .pointer (some ⟨b2, 0, none⟩), .pointer (some ⟨b3, 0, none⟩)] w fun e w' =>
      e = .returned (.tuple #[]) ∧ ((w.setCell ⟨bw, i, none⟩ (.int .u64 (IntKind.u64.wrap (x + y)))).setCell ⟨b3, 0, none⟩ (.int .u64 (IntKind.u64.wrap (x + y)))).drew = w' := by
  go_enter Try.func85, Try.ntmps85
  go_wp2_with fail
  go_region_held3 (fun w' => w'.cell? ⟨b0, 0, none⟩ = some (.pointer (some ⟨pc, 0, none⟩)) ∧ w'.cell? ⟨b1, 0, none⟩ = some (.int .i64 i) ∧ w'.cell? ⟨b2, 0, none⟩ = some (.int .u64 y) ∧ w'.cell? ⟨pc, 0, none⟩ = some (.iface 91 (.slice (some ⟨bw, 0, none⟩) n n))) (go_keep)
    (first | (go_at_call 151; refine (words_add bw n i x y _ hi (by simp [*]) (by simp [*])).mono ?_; rintro e w' ⟨rfl, rfl⟩))
  go_wp2
  go_end0
  exact ⟨rfl, rfl⟩



/-- A variable of its own in block b. -/
def Box (w : World) (b : Nat) (t : TypeId) (v : Value) : Prop := w.heap[b]? = some (.cells #[v] t)

theorem Box.cell {w : World} {b : Nat} {t : TypeId} {v : Value} (h : Box w b t v) : w.cell? ⟨b, 0, none⟩ = some v := cell_of h rfl
theorem Box.fz {w : World} {b : Nat} {t : TypeId} {v : Value} (h : Box w b t v) : w.frozen? ⟨b, 0, none⟩ = false := fz_of h
theorem Box.ch {ms : List Nat} {w w' : World} {b : Nat} {t : TypeId} {v : Value} (h : Box w b t v) (k : Ch ms w w') (hm : b ∉ ms) : Box w' b t v := k.heap h hm

theorem al {w : World} {k : Nat} {o : Obj} (h : w.heap[k]? = some o) (A : Obj) : (w.alloc A).heap[k]? = some o := (Below.heap_alloc _ _ _ (lt_of_heap h)).trans h
theorem al_new {w : World} {n : Nat} (h : n = w.heap.size) (A : Obj) : (w.alloc A).heap[n]? = some A := by subst h; exact heap_alloc_new w A

/-- A store into a block that is known whole. -/
theorem st_same {w : World} {b i : Nat} {cs : Array Value} {t : TypeId} (h : w.heap[b]? = some (.cells cs t)) (v : Value) : (w.setCell ⟨b, i, none⟩ v).heap[b]? = some (.cells (cs.setIfInBounds i v) t) := by
  rw [heap_setCell h, if_pos rfl]
theorem st_other {w : World} {b i k : Nat} {o : Obj} (h : w.heap[k]? = some o) (hn : ¬ k = b) (v : Value) : (w.setCell ⟨b, i, none⟩ v).heap[k]? = some o := (Below.heap_setCell _ _ _ _ hn).trans h

theorem CellsAt.cell0 {w : World} {pc bw : Nat} {xs : List Int} {st : Int} (h : CellsAt w pc bw xs st) : w.cell? ⟨pc, 0, none⟩ = some (.iface 91 (.slice (some ⟨bw, 0, none⟩) xs.length xs.length)) := cell_of h.hc rfl
theorem CellsAt.cell1 {w : World} {pc bw : Nat} {xs : List Int} {st : Int} (h : CellsAt w pc bw xs st) : w.cell? ⟨pc, 1, none⟩ = some (.int .i64 st) := cell_of h.hc rfl
theorem CellsAt.word {w : World} {pc bw : Nat} {xs : List Int} {st : Int} (h : CellsAt w pc bw xs st) {i : Nat} (hi : i < xs.length) : w.cell? ⟨bw, i, none⟩ = some (.int .u64 xs[i]) := cell_of h.hw (by simp [hi])

/-- One operation more is counted. -/
theorem CellsAt.count {w : World} {pc bw : Nat} {xs : List Int} {st : Int} (h : CellsAt w pc bw xs st) (n : Int) : CellsAt (w.setCell ⟨pc, 1, none⟩ (.int .i64 n)) pc bw xs n :=
  ⟨st_same h.hc _, st_other h.hw (fun e => h.ne e.symm) _, h.ne, h.ok, h.few⟩

theorem CellsAt.put {w : World} {pc bw : Nat} {xs : List Int} {st : Int} (h : CellsAt w pc bw xs st) {i : Nat} {x : Int} (h0 : 0 ≤ x) (h1 : x < 18446744073709551616) : CellsAt (w.setCell ⟨bw, i, none⟩ (.int .u64 x)) pc bw (xs.set i x) st := by
  refine ⟨?_, ?_, h.ne, fun y hy => ?_, by simpa using h.few⟩
  · rw [List.length_set]; exact st_other h.hc h.ne _
  · rw [st_same h.hw]; simp [List.map_set]
  · rcases List.mem_or_eq_of_mem_set hy with hy | rfl
    · exact h.ok y hy
    · exact ⟨h0, h1⟩

theorem wrapU (x : Int) : 0 ≤ IntKind.u64.wrap x ∧ IntKind.u64.wrap x < 18446744073709551616 := by
  rw [IntKind.wrap_u64]; omega

theorem CellsAt.drew {w : World} {pc bw : Nat} {xs : List Int} {st : Int} (h : CellsAt w pc bw xs st) : CellsAt w.drew pc bw xs st := ⟨h.hc, h.hw, h.ne, h.ok, h.few⟩

theorem CellsAt.other {w : World} {pc bw : Nat} {xs : List Int} {st : Int} (h : CellsAt w pc bw xs st) {b i : Nat} (v : Value) (h1 : ¬ pc = b) (h2 : ¬ bw = b) : CellsAt (w.setCell ⟨b, i, none⟩ v) pc bw xs st :=
  ⟨st_other h.hc h1 _, st_other h.hw h2 _, h.ne, h.ok, h.few⟩

theorem CellsAt.alloc {w : World} {pc bw : Nat} {xs : List Int} {st : Int} (h : CellsAt w pc bw xs st) (o : Obj) : CellsAt (w.alloc o) pc bw xs st := ⟨al h.hc o, al h.hw o, h.ne, h.ok, h.few⟩

theorem on_add (pc bw i b0 b1 b2 b3 : Nat) (xs : List Int) (y u st : Int) (w : World) (hi : i < xs.length) (hC : CellsAt w pc bw xs st)
    (h0 : Box w b0 25 (.pointer (some ⟨pc, 0, none⟩))) (h1 : Box w b1 3 (.int .i64 i)) (h2 : Box w b2 29 (.int .u64 y)) (h3 : Box w b3 29 (.int .u64 u))
    (n0 : ¬ bw = b0) (n1 : ¬ bw = b1) (n2 : ¬ bw = b2) (n3 : ¬ bw = b3)
    (m0 : ¬ b3 = b0) (m1 : ¬ b3 = b1) (m2 : ¬ b3 = b2) (mp : ¬ b3 = pc) (p0 : ¬ pc = b0) (p1 : ¬ pc = b1) (p2 : ¬ pc = b2) :
    Calls Try.prog 50 #[.pointer (some ⟨pc, 0, none⟩), .int .i64 i, .func (.func 85) #[] #[.pointer (some ⟨b0, 0, none⟩), .pointer (some ⟨b1, 0, none⟩), .pointer (some ⟨b2, 0, none⟩), .pointer (some ⟨b3, 0, none⟩)]] w fun e w' =>
      e = .returned (.bool true) ∧ CellsAt w' pc bw (xs.set i (IntKind.u64.wrap (xs[i] + y))) (wrap64 (st + 1)) ∧ Box w' b3 29 (.int .u64 (IntKind.u64.wrap (xs[i] + y))) ∧ Ch [pc, bw, b3] w w' := by
  refine cells_on pc bw xs.length i 85 _ st w _ hi hC.cell0 hC.cell1 (fz_of hC.hc) (fun _ => by kernel_rfl) ?_
  have hC1 := hC.count (wrap64 (st + 1))
  refine (add_1 pc bw xs.length i b0 b1 b2 b3 xs[i] y u _ hi hC1.cell0 (hC1.word hi) (fz_of hC1.hw) (cell_of (st_other h0 (fun e => p0 e.symm) _) rfl) (cell_of (st_other h1 (fun e => p1 e.symm) _) rfl)
    (cell_of (st_other h2 (fun e => p2 e.symm) _) rfl) (cell_of (st_other h3 mp _) rfl) (fz_of (st_other h3 mp _)) n0 n1 n2 n3 (fun e => hC.ne e.symm) m0 m1 m2 mp).mono ?_
  rintro e w' ⟨rfl, rfl⟩
  have hC2 := hC1.put (i := i) (wrapU (xs[i] + y)).1 (wrapU (xs[i] + y)).2
  refine ⟨rfl, (hC2.other _ (fun e => mp e.symm) n3).drew, ?_, ?_⟩
  · exact st_same (st_other (st_other h3 mp _) (fun e => n3 e.symm) _) _
  · exact ((((Ch.refl _ w).setCell (by simp) _).setCell (by simp) _).setCell (by simp) _).drew

set_option maxHeartbeats 1000000 in
theorem cells_add (pc bw i : Nat) (xs : List Int) (st y : Int) (w : World) (hi : i < xs.length) (hC : CellsAt w pc bw xs st) :
    Calls Try.prog 43 #[.pointer (some ⟨pc, 0, none⟩), .int .i64 i, .int .u64 y] w fun e w' =>
      e = .returned (.int .u64 (IntKind.u64.wrap (xs[i] + y))) ∧ CellsAt w' pc bw (xs.set i (IntKind.u64.wrap (xs[i] + y))) (wrap64 (st + 1)) ∧ Ch [pc, bw] w w' := by
  have hp := lt_of_heap hC.hc
  have hb := lt_of_heap hC.hw
  go_enter Try.func43, Try.ntmps43
  go_wp2_with fail
  refine (on_add pc bw i w.heap.size (w.heap.size + 1) (w.heap.size + 1 + 1) (w.heap.size + 1 + 1 + 1) xs y 0 st _ hi ((((hC.alloc _).alloc _).alloc _).alloc _) (al (al (al (al_new rfl _) _) _) _) (al (al (al_new (by simp) _) _) _) (al (al_new (by simp) _) _) (al_new (by simp) _)
    (by omega) (by omega) (by omega) (by omega) (by omega) (by omega) (by omega) (by omega) (by omega) (by omega) (by omega)).mono ?_
  rintro e w1 ⟨rfl, hC', hb3, hch⟩
  have hc3 := hb3.cell
  have hf3 := hb3.fz
  go_wp2
  have hc4 := (st_same (i := 0) hb3 (.int .u64 (IntKind.u64.wrap (xs[i] + y))))
  refine bodyPost_ret (v := .int .u64 (IntKind.u64.wrap (xs[i] + y))) (by have := cell_of hc4 (i := 0) rfl; simp [results, Try.results43, go_sem, this]) rfl ⟨rfl, hC'.other _ (by omega) (by omega), ?_⟩
  exact (((((Ch.refl _ w).alloc _).alloc _).alloc _).alloc _).trans' (hch.setCell (p := ⟨_, 0, none⟩) (by simp) _) (by simp; omega)

set_option maxHeartbeats 400000 in
theorem load_1 (pc bw n i b0 b1 b3 : Nat) (x u : Int) (w : World) (hi : i < n)
    (hc : w.cell? ⟨pc, 0, none⟩ = some (.iface 91 (.slice (some ⟨bw, 0, none⟩) n n))) (hx : w.cell? ⟨bw, i, none⟩ = some (.int .u64 x))
    (h0 : w.cell? ⟨b0, 0, none⟩ = some (.pointer (some ⟨pc, 0, none⟩))) (h1 : w.cell? ⟨b1, 0, none⟩ = some (.int .i64 i))
    (h3 : w.cell? ⟨b3, 0, none⟩ = some (.int .u64 u)) (hf3 : w.frozen? ⟨b3, 0, none⟩ = false)
    (m0 : ¬ b3 = b0) (m1 : ¬ b3 = b1) (mp : ¬ b3 = pc) :
    Calls Try.prog 51 #[.pointer (some ⟨b0, 0, none⟩), .pointer (some ⟨b1, 0, none⟩), .pointer (some ⟨b3, 0, none⟩)] w fun e w' =>
      e = .returned (.tuple #[]) ∧ (w.setCell ⟨b3, 0, none⟩ (.int .u64 x)).drew = w' := by
  go_enter Try.func51, Try.ntmps51
  go_wp2_with fail
  go_region_held3 (fun w' => w'.cell? ⟨b0, 0, none⟩ = some (.pointer (some ⟨pc, 0, none⟩)) ∧ w'.cell? ⟨b1, 0, none⟩ = some (.int .i64 i) ∧ w'.cell? ⟨pc, 0, none⟩ = some (.iface 91 (.slice (some ⟨bw, 0, none⟩) n n))) (go_keep)
    (first | (go_at_call 153; refine (words_load bw n i x _ hi (by simp [*])).mono ?_; rintro e w' ⟨rfl, rfl⟩))
  go_wp2
  go_end0
  exact ⟨rfl, rfl⟩

set_option maxHeartbeats 400000 in
theorem store_1 (pc bw n i b0 b1 b2 : Nat) (x y : Int) (w : World) (hi : i < n)
    (hc : w.cell? ⟨pc, 0, none⟩ = some (.iface 91 (.slice (some ⟨bw, 0, none⟩) n n)))
    (hx : w.cell? ⟨bw, i, none⟩ = some (.int .u64 x)) (hf : w.frozen? ⟨bw, i, none⟩ = false)
    (h0 : w.cell? ⟨b0, 0, none⟩ = some (.pointer (some ⟨pc, 0, none⟩))) (h1 : w.cell? ⟨b1, 0, none⟩ = some (.int .i64 i)) (h2 : w.cell? ⟨b2, 0, none⟩ = some (.int .u64 y))
    (n0 : ¬ bw = b0) (n1 : ¬ bw = b1) (n2 : ¬ bw = b2) (np : ¬ bw = pc) :
    Calls Try.prog 109 #[.pointer (some ⟨b0, 0, none⟩), .pointer (some ⟨b1, 0, none⟩), .pointer (some ⟨b2, 0, none⟩)] w fun e w' =>
      e = .returned (.tuple #[]) ∧ (w.setCell ⟨bw, i, none⟩ (.int .u64 y)).drew = w' := by
  go_enter Try.func109, Try.ntmps109
  go_wp2_with fail
  go_region_held3 (fun w' => w'.cell? ⟨b0, 0, none⟩ = some (.pointer (some ⟨pc, 0, none⟩)) ∧ w'.cell? ⟨b1, 0, none⟩ = some (.int .i64 i) ∧ w'.cell? ⟨b2, 0, none⟩ = some (.int .u64 y) ∧ w'.cell? ⟨pc, 0, none⟩ = some (.iface 91 (.slice (some ⟨bw, 0, none⟩) n n))) (go_keep)
    (first | (go_at_call 154; refine (words_store bw n i x y _ hi (by simp [*]) (by simp [*])).mono ?_; rintro e w' ⟨rfl, rfl⟩))
  go_wp2
  go_end0
  exact ⟨rfl, rfl⟩

set_option maxHeartbeats 400000 in
theorem swap_1_yes (pc bw n i b0 b1 b2 b3 b4 : Nat) (x y : Int) (u : Bool) (w : World) (hi : i < n)
    (hc : w.cell? ⟨pc, 0, none⟩ = some (.iface 91 (.slice (some ⟨bw, 0, none⟩) n n)))
    (hx : w.cell? ⟨bw, i, none⟩ = some (.int .u64 x)) (hf : w.frozen? ⟨bw, i, none⟩ = false)
    (h0 : w.cell? ⟨b0, 0, none⟩ = some (.pointer (some ⟨pc, 0, none⟩))) (h1 : w.cell? ⟨b1, 0, none⟩ = some (.int .i64 i)) (h2 : w.cell? ⟨b2, 0, none⟩ = some (.int .u64 x)) (h3 : w.cell? ⟨b3, 0, none⟩ = some (.int .u64 y))
    (h4 : w.cell? ⟨b4, 0, none⟩ = some (.bool u)) (hf4 : w.frozen? ⟨b4, 0, none⟩ = false) (n0 : ¬ bw = b0) (n1 : ¬ bw = b1) (n2 : ¬ bw = b2) (n3 : ¬ bw = b3) (n4 : ¬ bw = b4) (np : ¬ bw = pc)
    (m0 : ¬ b4 = b0) (m1 : ¬ b4 = b1) (m2 : ¬ b4 = b2) (m3 : ¬ b4 = b3) (mp : ¬ b4 = pc) :
    Calls Try.prog 134 #[.pointer (some ⟨b0, 0, none⟩), .pointer (some ⟨b1, 0, none⟩), .pointer (some ⟨b2, 0, none⟩), .pointer (some ⟨b3, 0, none⟩), .pointer (some ⟨b4, 0, none⟩)] w fun e w' =>
      e = .returned (.tuple #[]) ∧ ((w.setCell ⟨bw, i, none⟩ (.int .u64 y)).setCell ⟨b4, 0, none⟩ (.bool true)).drew = w' := by
  go_enter Try.func134, Try.ntmps134
  go_wp2_with fail
  go_region_held3 (fun w' => w'.cell? ⟨b0, 0, none⟩ = some (.pointer (some ⟨pc, 0, none⟩)) ∧ w'.cell? ⟨b1, 0, none⟩ = some (.int .i64 i) ∧ w'.cell? ⟨b2, 0, none⟩ = some (.int .u64 x) ∧ w'.cell? ⟨b3, 0, none⟩ = some (.int .u64 y) ∧ w'.cell? ⟨pc, 0, none⟩ = some (.iface 91 (.slice (some ⟨bw, 0, none⟩) n n))) (go_keep)
    (first | (go_at_call 155; refine (words_swap_yes bw n i x y _ hi (by simp [*]) (by simp [*])).mono ?_; rintro e w' ⟨rfl, rfl⟩))
  go_wp2
  go_end0
  exact ⟨rfl, rfl⟩

set_option maxHeartbeats 400000 in
theorem swap_1_no (pc bw n i b0 b1 b2 b3 b4 : Nat) (x o y : Int) (u : Bool) (w : World) (hi : i < n) (hne : (x == o) = false)
    (hc : w.cell? ⟨pc, 0, none⟩ = some (.iface 91 (.slice (some ⟨bw, 0, none⟩) n n)))
    (hx : w.cell? ⟨bw, i, none⟩ = some (.int .u64 x))
    (h0 : w.cell? ⟨b0, 0, none⟩ = some (.pointer (some ⟨pc, 0, none⟩))) (h1 : w.cell? ⟨b1, 0, none⟩ = some (.int .i64 i)) (h2 : w.cell? ⟨b2, 0, none⟩ = some (.int .u64 o)) (h3 : w.cell? ⟨b3, 0, none⟩ = some (.int .u64 y))
    (h4 : w.cell? ⟨b4, 0, none⟩ = some (.bool u)) (hf4 : w.frozen? ⟨b4, 0, none⟩ = false)
    (m0 : ¬ b4 = b0) (m1 : ¬ b4 = b1) (m2 : ¬ b4 = b2) (m3 : ¬ b4 = b3) (mp : ¬ b4 = pc) :
    Calls Try.prog 134 #[.pointer (some ⟨b0, 0, none⟩), .pointer (some ⟨b1, 0, none⟩), .pointer (some ⟨b2, 0, none⟩), .pointer (some ⟨b3, 0, none⟩), .pointer (some ⟨b4, 0, none⟩)] w fun e w' =>
      e = .returned (.tuple #[]) ∧ (w.setCell ⟨b4, 0, none⟩ (.bool false)).drew = w' := by
  go_enter Try.func134, Try.ntmps134
  go_wp2_with fail
  go_region_held3 (fun w' => w'.cell? ⟨b0, 0, none⟩ = some (.pointer (some ⟨pc, 0, none⟩)) ∧ w'.cell? ⟨b1, 0, none⟩ = some (.int .i64 i) ∧ w'.cell? ⟨b2, 0, none⟩ = some (.int .u64 o) ∧ w'.cell? ⟨b3, 0, none⟩ = some (.int .u64 y) ∧ w'.cell? ⟨pc, 0, none⟩ = some (.iface 91 (.slice (some ⟨bw, 0, none⟩) n n))) (go_keep)
    (first | (go_at_call 155; refine (words_swap_no bw n i x o y _ hi (by simp [*]) hne).mono ?_; rintro e w' ⟨rfl, rfl⟩))
  go_wp2
  go_end0
  exact ⟨rfl, rfl⟩

set_option maxHeartbeats 1000000 in
theorem cells_load (pc bw i : Nat) (xs : List Int) (st : Int) (w : World) (hi : i < xs.length) (hC : CellsAt w pc bw xs st) :
    Calls Try.prog 15 #[.pointer (some ⟨pc, 0, none⟩), .int .i64 i] w fun e w' =>
      e = .returned (.int .u64 xs[i]) ∧ CellsAt w' pc bw xs (wrap64 (st + 1)) ∧ Ch [pc] w w' := by
  have hp := lt_of_heap hC.hc
  have hb := lt_of_heap hC.hw
  go_enter Try.func15, Try.ntmps15
  go_wp2_with fail
  have hA := ((hC.alloc (.cells #[.pointer (some ⟨pc, 0, none⟩)] 25)).alloc (.cells #[.int .i64 i] 3)).alloc (.cells #[.int .u64 0] 29)
  have hB := hA.count (wrap64 (st + 1))
  refine (cells_on pc bw xs.length i 51 _ st _ _ hi hA.cell0 hA.cell1 (fz_of hA.hc) (fun _ => by kernel_rfl)
    (load_1 pc bw xs.length i w.heap.size (w.heap.size + 1) (w.heap.size + 1 + 1) xs[i] 0 _ hi hB.cell0 (hB.word hi) (cell_of (st_other (al (al (al_new rfl _) _) _) (by omega) _) rfl) (cell_of (st_other (al (al_new (by simp) _) _) (by omega) _) rfl)
      (cell_of (st_other (al_new (by simp) _) (by omega) _) rfl) (fz_of (st_other (al_new (by simp) _) (by omega) _)) (by omega) (by omega) (by omega))).mono ?_
  rintro e w1 ⟨rfl, rfl⟩
  have hn : ∀ n, Box (((((w.alloc (.cells #[.pointer (some ⟨pc, 0, none⟩)] 25)).alloc (.cells #[.int .i64 i] 3)).alloc (.cells #[.int .u64 0] 29)).setCell ⟨pc, 1, none⟩ (.int .i64 n)).setCell ⟨w.heap.size + 1 + 1, 0, none⟩ (.int .u64 xs[i])).drew (w.heap.size + 1 + 1) 29 (.int .u64 xs[i]) := fun n =>
    st_same (st_other (al_new (by simp) _) (by omega) _) _
  have hb3 := hn (wrap64 (st + 1))
  have hC' := (hB.other (b := w.heap.size + 1 + 1) (i := 0) (.int .u64 xs[i]) (by omega) (by omega)).drew
  have hch : Ch [pc] w (((((w.alloc (.cells #[.pointer (some ⟨pc, 0, none⟩)] 25)).alloc (.cells #[.int .i64 i] 3)).alloc (.cells #[.int .u64 0] 29)).setCell ⟨pc, 1, none⟩ (.int .i64 (wrap64 (st + 1)))).setCell ⟨w.heap.size + 1 + 1, 0, none⟩ (.int .u64 xs[i])).drew :=
    ((((((Ch.refl _ w).alloc _).alloc _).alloc _).setCell (by simp) _).setCell (by right; simp; omega) _).drew
  revert hb3 hC' hch
  clear hn hA hB
  generalize (((((w.alloc (.cells #[.pointer (some ⟨pc, 0, none⟩)] 25)).alloc (.cells #[.int .i64 i] 3)).alloc (.cells #[.int .u64 0] 29)).setCell ⟨pc, 1, none⟩ (.int .i64 (wrap64 (st + 1)))).setCell ⟨w.heap.size + 1 + 1, 0, none⟩ (.int .u64 xs[i])).drew = w1
  intro hb3 hC' hch
  have hc3 := hb3.cell
  have hf3 := hb3.fz
  go_wp2
  have hc4 := (st_same (i := 0) hb3 (.int .u64 xs[i]))
  refine bodyPost_ret (v := .int .u64 xs[i]) (by have := cell_of hc4 (i := 0) rfl; simp [results, Try.results15, go_sem, this]) rfl ⟨rfl, hC'.other _ (by omega) (by omega), ?_⟩
  exact hch.setCell (p := ⟨_, 0, none⟩) (by right; show w.heap.size ≤ w.heap.size + 1 + 1; omega) _


set_option maxHeartbeats 1000000 in
theorem cells_store (pc bw i : Nat) (xs : List Int) (st y : Int) (w : World) (hi : i < xs.length) (hC : CellsAt w pc bw xs st) (y0 : 0 ≤ y) (y1 : y < 18446744073709551616) :
    Calls Try.prog 63 #[.pointer (some ⟨pc, 0, none⟩), .int .i64 i, .int .u64 y] w fun e w' =>
      e = .returned (.bool true) ∧ CellsAt w' pc bw (xs.set i y) (wrap64 (st + 1)) ∧ Ch [pc, bw] w w' := by
  have hp := lt_of_heap hC.hc
  have hb := lt_of_heap hC.hw
  have hne := hC.ne
  have hA := ((hC.alloc (.cells #[.pointer (some ⟨pc, 0, none⟩)] 25)).alloc (.cells #[.int .i64 i] 3)).alloc (.cells #[.int .u64 y] 29)
  have hB := hA.count (wrap64 (st + 1))
  go_enter Try.func63, Try.ntmps63
  go_wp2_with fail
  refine (cells_on pc bw xs.length i 109 _ st _ _ hi hA.cell0 hA.cell1 (fz_of hA.hc) (fun _ => by kernel_rfl)
    (store_1 pc bw xs.length i w.heap.size (w.heap.size + 1) (w.heap.size + 1 + 1) xs[i] y _ hi hB.cell0 (hB.word hi) (fz_of hB.hw) (cell_of (st_other (al (al (al_new rfl _) _) _) (by omega) _) rfl) (cell_of (st_other (al (al_new (by simp) _) _) (by omega) _) rfl)
      (cell_of (st_other (al_new (by simp) _) (by omega) _) rfl) (by omega) (by omega) (by omega) (by omega))).mono ?_
  rintro e w1 ⟨rfl, rfl⟩
  go_wp2
  go_ret
  exact ⟨rfl, (hB.put y0 y1).drew, ((((((Ch.refl _ w).alloc _).alloc _).alloc _).setCell (by simp) _).setCell (by simp) _).drew⟩

/-- What a Swap leaves in the cells. -/
def swapped (xs : List Int) (i : Nat) (o y : Int) : List Int := if xs.getD i 0 = o then xs.set i y else xs

set_option maxHeartbeats 1000000 in
theorem cells_swap_yes (pc bw i : Nat) (xs : List Int) (st y : Int) (w : World) (hi : i < xs.length) (hC : CellsAt w pc bw xs st) (y0 : 0 ≤ y) (y1 : y < 18446744073709551616) :
    Calls Try.prog 131 #[.pointer (some ⟨pc, 0, none⟩), .int .i64 i, .int .u64 xs[i], .int .u64 y] w fun e w' =>
      e = .returned (.bool true) ∧ CellsAt w' pc bw (xs.set i y) (wrap64 (st + 1)) ∧ Ch [pc, bw] w w' := by
  have hp := lt_of_heap hC.hc
  have hb := lt_of_heap hC.hw
  have hne := hC.ne
  have hA := ((((hC.alloc (.cells #[.pointer (some ⟨pc, 0, none⟩)] 25)).alloc (.cells #[.int .i64 i] 3)).alloc (.cells #[.int .u64 xs[i]] 29)).alloc (.cells #[.int .u64 y] 29)).alloc (.cells #[.bool false] 4)
  have hB := hA.count (wrap64 (st + 1))
  have hP := hB.put (i := i) y0 y1
  go_enter Try.func131, Try.ntmps131
  go_wp2_with fail
  refine (cells_on pc bw xs.length i 134 _ st _ _ hi hA.cell0 hA.cell1 (fz_of hA.hc) (fun _ => by kernel_rfl)
    (swap_1_yes pc bw xs.length i w.heap.size (w.heap.size + 1) (w.heap.size + 1 + 1) (w.heap.size + 1 + 1 + 1) (w.heap.size + 1 + 1 + 1 + 1) xs[i] y false _ hi hB.cell0 (hB.word hi) (fz_of hB.hw)
      (cell_of (st_other (al (al (al (al (al_new rfl _) _) _) _) _) (by omega) _) rfl) (cell_of (st_other (al (al (al (al_new (by simp) _) _) _) _) (by omega) _) rfl) (cell_of (st_other (al (al (al_new (by simp) _) _) _) (by omega) _) rfl) (cell_of (st_other (al (al_new (by simp) _) _) (by omega) _) rfl)
      (cell_of (st_other (al_new (by simp) _) (by omega) _) rfl) (fz_of (st_other (al_new (by simp) _) (by omega) _)) (by omega) (by omega) (by omega) (by omega) (by omega) (by omega) (by omega) (by omega) (by omega) (by omega) (by omega))).mono ?_
  rintro e w1 ⟨rfl, rfl⟩
  have hb3 : Box (((((((((w.alloc (.cells #[.pointer (some ⟨pc, 0, none⟩)] 25)).alloc (.cells #[.int .i64 i] 3)).alloc (.cells #[.int .u64 xs[i]] 29)).alloc (.cells #[.int .u64 y] 29)).alloc (.cells #[.bool false] 4)).setCell ⟨pc, 1, none⟩ (.int .i64 (wrap64 (st + 1)))).setCell ⟨bw, i, none⟩ (.int .u64 y)).setCell ⟨w.heap.size + 1 + 1 + 1 + 1, 0, none⟩ (.bool true)).drew) (w.heap.size + 1 + 1 + 1 + 1) 4 (.bool true) :=
    st_same (st_other (st_other (al_new (by simp) _) (by omega) _) (by omega) _) _
  have hC' := (hP.other (b := w.heap.size + 1 + 1 + 1 + 1) (i := 0) (.bool true) (by omega) (by omega)).drew
  have hch := ((((((((((Ch.refl [pc, bw] w).alloc (.cells #[.pointer (some ⟨pc, 0, none⟩)] 25)).alloc (.cells #[.int .i64 i] 3)).alloc (.cells #[.int .u64 xs[i]] 29)).alloc (.cells #[.int .u64 y] 29)).alloc (.cells #[.bool false] 4)).setCell (p := ⟨pc, 1, none⟩) (by simp) (.int .i64 (wrap64 (st + 1)))).setCell (p := ⟨bw, i, none⟩) (by simp) (.int .u64 y)).setCell (p := ⟨w.heap.size + 1 + 1 + 1 + 1, 0, none⟩) (by right; simp; omega) (.bool true)).drew)
  revert hb3 hC' hch
  clear hA hB hP
  generalize (((((((((w.alloc (.cells #[.pointer (some ⟨pc, 0, none⟩)] 25)).alloc (.cells #[.int .i64 i] 3)).alloc (.cells #[.int .u64 xs[i]] 29)).alloc (.cells #[.int .u64 y] 29)).alloc (.cells #[.bool false] 4)).setCell ⟨pc, 1, none⟩ (.int .i64 (wrap64 (st + 1)))).setCell ⟨bw, i, none⟩ (.int .u64 y)).setCell ⟨w.heap.size + 1 + 1 + 1 + 1, 0, none⟩ (.bool true)).drew) = w1
  intro hb3 hC' hch
  have hc3 := hb3.cell
  have hf3 := hb3.fz
  go_wp2
  have hc4 := (st_same (i := 0) hb3 (.bool true))
  refine bodyPost_ret (v := .bool true) (by have := cell_of hc4 (i := 0) rfl; simp [results, Try.results131, go_sem, this]) rfl ⟨rfl, hC'.other _ (by omega) (by omega), ?_⟩
  exact hch.setCell (p := ⟨_, 0, none⟩) (by right; show w.heap.size ≤ w.heap.size + 1 + 1 + 1 + 1; omega) _

set_option maxHeartbeats 1000000 in
theorem cells_swap_no (pc bw i : Nat) (xs : List Int) (st o y : Int) (w : World) (hi : i < xs.length) (hne : (xs[i] == o) = false) (hC : CellsAt w pc bw xs st) :
    Calls Try.prog 131 #[.pointer (some ⟨pc, 0, none⟩), .int .i64 i, .int .u64 o, .int .u64 y] w fun e w' =>
      e = .returned (.bool false) ∧ CellsAt w' pc bw xs (wrap64 (st + 1)) ∧ Ch [pc, bw] w w' := by
  have hp := lt_of_heap hC.hc
  have hb := lt_of_heap hC.hw
  have hne' := hC.ne
  have hA := ((((hC.alloc (.cells #[.pointer (some ⟨pc, 0, none⟩)] 25)).alloc (.cells #[.int .i64 i] 3)).alloc (.cells #[.int .u64 o] 29)).alloc (.cells #[.int .u64 y] 29)).alloc (.cells #[.bool false] 4)
  have hB := hA.count (wrap64 (st + 1))
  go_enter Try.func131, Try.ntmps131
  go_wp2_with fail
  refine (cells_on pc bw xs.length i 134 _ st _ _ hi hA.cell0 hA.cell1 (fz_of hA.hc) (fun _ => by kernel_rfl)
    (swap_1_no pc bw xs.length i w.heap.size (w.heap.size + 1) (w.heap.size + 1 + 1) (w.heap.size + 1 + 1 + 1) (w.heap.size + 1 + 1 + 1 + 1) xs[i] o y false _ hi hne hB.cell0 (hB.word hi)
      (cell_of (st_other (al (al (al (al (al_new rfl _) _) _) _) _) (by omega) _) rfl) (cell_of (st_other (al (al (al (al_new (by simp) _) _) _) _) (by omega) _) rfl) (cell_of (st_other (al (al (al_new (by simp) _) _) _) (by omega) _) rfl) (cell_of (st_other (al (al_new (by simp) _) _) (by omega) _) rfl)
      (cell_of (st_other (al_new (by simp) _) (by omega) _) rfl) (fz_of (st_other (al_new (by simp) _) (by omega) _)) (by omega) (by omega) (by omega) (by omega) (by omega))).mono ?_
  rintro e w1 ⟨rfl, rfl⟩
  have hb3 : Box ((((((((w.alloc (.cells #[.pointer (some ⟨pc, 0, none⟩)] 25)).alloc (.cells #[.int .i64 i] 3)).alloc (.cells #[.int .u64 o] 29)).alloc (.cells #[.int .u64 y] 29)).alloc (.cells #[.bool false] 4)).setCell ⟨pc, 1, none⟩ (.int .i64 (wrap64 (st + 1)))).setCell ⟨w.heap.size + 1 + 1 + 1 + 1, 0, none⟩ (.bool false)).drew) (w.heap.size + 1 + 1 + 1 + 1) 4 (.bool false) :=
    st_same (st_other (al_new (by simp) _) (by omega) _) _
  have hC' := (hB.other (b := w.heap.size + 1 + 1 + 1 + 1) (i := 0) (.bool false) (by omega) (by omega)).drew
  have hch := (((((((((Ch.refl [pc, bw] w).alloc (.cells #[.pointer (some ⟨pc, 0, none⟩)] 25)).alloc (.cells #[.int .i64 i] 3)).alloc (.cells #[.int .u64 o] 29)).alloc (.cells #[.int .u64 y] 29)).alloc (.cells #[.bool false] 4)).setCell (p := ⟨pc, 1, none⟩) (by simp) (.int .i64 (wrap64 (st + 1)))).setCell (p := ⟨w.heap.size + 1 + 1 + 1 + 1, 0, none⟩) (by right; simp; omega) (.bool false)).drew)
  revert hb3 hC' hch
  clear hA hB
  generalize ((((((((w.alloc (.cells #[.pointer (some ⟨pc, 0, none⟩)] 25)).alloc (.cells #[.int .i64 i] 3)).alloc (.cells #[.int .u64 o] 29)).alloc (.cells #[.int .u64 y] 29)).alloc (.cells #[.bool false] 4)).setCell ⟨pc, 1, none⟩ (.int .i64 (wrap64 (st + 1)))).setCell ⟨w.heap.size + 1 + 1 + 1 + 1, 0, none⟩ (.bool false)).drew) = w1
  intro hb3 hC' hch
  have hc3 := hb3.cell
  have hf3 := hb3.fz
  go_wp2
  have hc4 := (st_same (i := 0) hb3 (.bool false))
  refine bodyPost_ret (v := .bool false) (by have := cell_of hc4 (i := 0) rfl; simp [results, Try.results131, go_sem, this]) rfl ⟨rfl, hC'.other _ (by omega) (by omega), ?_⟩
  exact hch.setCell (p := ⟨_, 0, none⟩) (by right; show w.heap.size ≤ w.heap.size + 1 + 1 + 1 + 1; omega) _

theorem info29 : (Try.prog.info? 29).map (fun i => (i.zero, i.size, i.bytes)) = some (some (.int .u64 0), 1, 8) := by kernel_rfl

theorem made29 (n : Nat) : madeCells (Value.int .u64 0).cells (n * 1) = ((List.replicate n (0 : Int)).map (Value.int .u64 ·)).toArray := by
  apply Array.ext
  · simp [madeCells]
  · intro i h1 h2
    simp [madeCells, Value.cells, Nat.mod_one]

theorem make_words (n : Nat) (hn : n ≤ 16777216) (w : World) : (Instr.makeSlice 91 (.int .i64 n) (.int .i64 n)).run Try.prog w = .ok (.slice (some ⟨w.heap.size, 0, none⟩) n n) (w.alloc (.cells ((List.replicate n (0 : Int)).map (Value.int .u64 ·)).toArray 29)) := by
  obtain ⟨i0, hi, hz0, hz1, hz2⟩ := info_parts info29
  have := run_make (P := Try.prog) w 91 29 i0 (.int .u64 0) Try.underlying91 hi hz0 .i64 .i64 n n (by omega) (by omega) (by rw [hz2]; omega) (by omega)
  rw [hz1] at this
  simp only [Int.toNat_natCast] at this
  rw [made29] at this
  exact this

theorem cells_over (a : Option Addr) (n c : Nat) (w : World) :
    Calls Try.prog 40 #[.iface 91 (.slice a n c)] w fun e w' => e = .returned (.pointer (some ⟨w.heap.size, 0, none⟩)) ∧ w.alloc (.cells #[.iface 91 (.slice a n c), .int .i64 0] 113) = w' := by
  go_enter Try.func40, Try.ntmps40
  go_wp2
  go_ret
  exact ⟨rfl, rfl⟩

set_option maxHeartbeats 400000 in
theorem cells_new (n : Nat) (hn : n ≤ 16777216) (w : World) :
    Calls Try.prog 10 #[.int .i64 n] w fun e w' => e = .returned (.pointer (some ⟨w.heap.size + 1, 0, none⟩)) ∧ CellsAt w' (w.heap.size + 1) w.heap.size (List.replicate n 0) 0 ∧ Ch [] w w' := by
  have hmk := make_words n hn
  have h0 : ¬ (n : Int) < 0 := by omega
  have h1 : ¬ (16777216 < (n : Int)) := by omega
  go_enter Try.func10, Try.ntmps10
  go_wp2_with (go_at_call 40; refine (cells_over _ _ _ _).mono ?_; rintro e w' ⟨rfl, rfl⟩)
  go_ret
  refine ⟨rfl, ⟨?_, ?_, by omega, ?_, by simpa using hn⟩, ((Ch.refl _ w).alloc _).alloc _⟩
  · rw [List.length_replicate]; exact al_new (by simp) _
  · simpa using al (al_new (w := w) rfl (.cells (Array.replicate n (Value.int IntKind.u64 0)) 29)) (.cells #[Value.iface 91 (Value.slice (some { block := w.heap.size, off := 0 }) n n), Value.int IntKind.i64 0] 113)
  · intro x hx; rw [List.eq_of_mem_replicate hx]; omega

theorem cells_steps (pc bw : Nat) (xs : List Int) (st : Int) (w : World) (hC : CellsAt w pc bw xs st) :
    Calls Try.prog 34 #[.pointer (some ⟨pc, 0, none⟩)] w fun e w' => e = .returned (.int .i64 st) ∧ w = w' := by
  have hc : w.cell? ⟨pc, 1, none⟩ = some (.int .i64 st) := cell_of hC.hc rfl
  have hl := run_call_load (P := Try.prog) Try.func120 (by kernel_rfl) (by kernel_rfl) (by kernel_rfl) .i64 (by kernel_rfl) hc
  go_enter Try.func34, Try.ntmps34
  go_wp2
  go_ret
  exact ⟨rfl, rfl⟩

end Go.Proofs.Ytejedbknpjffkaa
