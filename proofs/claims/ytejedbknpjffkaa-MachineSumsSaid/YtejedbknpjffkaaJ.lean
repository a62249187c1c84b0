/- A machine of threads that add to one cell: what holds of it, and how each call keeps that; conditions: six threads and ten tasks each at most. -/
import Derived.Test.YtejedbknpjffkaaI
namespace Go.Proofs.Ytejedbknpjffkaa
open Go.RowKit

/-- What a block is for. -/
inductive Tag where
  | cells | fixed | mach | foreign
  | thr (i : Nat) | vals (i : Nat) | tasks (i : Nat)

/-- A thread: what its tasks add, and the values of those that are done. -/
structure Th where
  ds : List Int
  vs : List Int

/-- A thread's blocks. -/
structure Blk where
  p : Nat
  bl : Nat
  lv : Value
  vv : Value
  qs : List Nat

def pv (q : Nat) : Value := .pointer (some ⟨q, 0, none⟩)

structure ThOk (w : World) (κ : Nat → Tag) (pc i : Nat) (t : Th) (b : Blk) : Prop where
  thr : ThreadAt w b.p b.qs[t.vs.length]? (.func (.func 46) #[] #[.pointer (some ⟨b.bl, 0, none⟩)]) b.vv
  box : Box w b.bl 30 b.lv
  lrow : w.ownsRow 0 32 1 b.lv t.ds.length (b.qs.map pv)
  vrow : w.ownsRow 0 3 1 b.vv t.vs.length (t.vs.map (Value.int .i64))
  len : b.qs.length = t.ds.length
  le : t.vs.length ≤ t.ds.length
  few : t.ds.length ≤ 10
  nodup : b.qs.Nodup
  fresh : ∀ (j q : Nat) (d : Int), t.vs.length ≤ j → b.qs[j]? = some q → t.ds[j]? = some d → ∃ pp b0 b1 b2, FreshAdd w q pc 0 d pp b0 b1 b2 ∧ κ pp = .fixed ∧ κ b0 = .fixed ∧ κ b1 = .fixed ∧ κ b2 = .fixed
  kp : κ b.p = .thr i
  kbl : κ b.bl = .fixed
  klv : ∀ g, b.lv.ownBlock = some g → κ g = .fixed
  kvv : ∀ g, b.vv.ownBlock = some g → κ g = .vals i
  kqs : ∀ q ∈ b.qs, κ q = .tasks i ∧ q < w.heap.size

theorem ThOk.ch {ms : List Nat} {w w' : World} {κ : Nat → Tag} {pc i : Nat} {t : Th} {b : Blk} (h : ThOk w κ pc i t b) (k : Ch ms w w') (hm : ∀ m ∈ ms, κ m ≠ .fixed ∧ κ m ≠ .thr i ∧ κ m ≠ .vals i ∧ κ m ≠ .tasks i) : ThOk w' κ pc i t b := by
  have nf : ∀ z, κ z = .fixed → z ∉ ms := fun z hz hi => (hm z hi).1 hz
  refine ⟨h.thr.ch k (fun hi => (hm _ hi).2.1 h.kp), h.box.ch k (nf _ h.kbl), ownsRow_ch h.lrow k (fun g hg => nf _ (h.klv g hg)), ownsRow_ch h.vrow k (fun g hg hi => (hm _ hi).2.2.1 (h.kvv g hg)), h.len, h.le, h.few, h.nodup, ?_, h.kp, h.kbl, h.klv, h.kvv, fun q hq => ⟨(h.kqs q hq).1, Nat.lt_of_lt_of_le (h.kqs q hq).2 k.size⟩⟩
  intro j q d hj hq hd
  obtain ⟨pp, b0, b1, b2, hF, k1, k2, k3, k4⟩ := h.fresh j q d hj hq hd
  exact ⟨pp, b0, b1, b2, hF.ch k ⟨fun hi => (hm _ hi).2.2.2 (h.kqs q (List.mem_of_getElem? hq)).1, nf _ k1, nf _ k2, nf _ k3, nf _ k4⟩, k1, k2, k3, k4⟩

/-- Other labels, the same on the blocks that lie. -/
theorem ThOk.re {w : World} {κ κ' : Nat → Tag} {pc i : Nat} {t : Th} {b : Blk} (h : ThOk w κ pc i t b) (hk : ∀ z, z < w.heap.size → (κ z = .fixed ∨ κ z = .thr i ∨ κ z = .vals i ∨ κ z = .tasks i) → κ' z = κ z) : ThOk w κ' pc i t b := by
  have nf : ∀ z, z < w.heap.size → κ z = .fixed → κ' z = .fixed := fun z hz e => (hk z hz (.inl e)).trans e
  refine ⟨h.thr, h.box, h.lrow, h.vrow, h.len, h.le, h.few, h.nodup, ?_, (hk _ (lt_of_heap h.thr) (.inr (.inl h.kp))).trans h.kp, nf _ (lt_of_heap h.box) h.kbl, fun g hg => nf _ (h.lrow.lt g hg).2 (h.klv g hg), fun g hg => (hk _ (h.vrow.lt g hg).2 (.inr (.inr (.inl (h.kvv g hg))))).trans (h.kvv g hg),
    fun q hq => ⟨(hk _ (h.kqs q hq).2 (.inr (.inr (.inr (h.kqs q hq).1)))).trans (h.kqs q hq).1, (h.kqs q hq).2⟩⟩
  intro j q d hj hq hd
  obtain ⟨pp, b0, b1, b2, hF, k1, k2, k3, k4⟩ := h.fresh j q d hj hq hd
  exact ⟨pp, b0, b1, b2, hF, nf _ (lt_of_heap hF.point) k1, nf _ (lt_of_heap hF.h0) k2, nf _ (lt_of_heap hF.h1) k3, nf _ (lt_of_heap hF.h2) k4⟩

structure MOk (fr : Nat → Prop) (w : World) (κ : Nat → Tag) (pc bw pm : Nat) (x st : Int) (ts : List Th) (bs : List Blk) (tv : Value) : Prop where
  cells : CellsAt w pc bw [x] st
  mach : MachAt w pm tv
  row : w.ownsRow 0 100 1 tv ts.length (bs.map fun b => pv b.p)
  len : bs.length = ts.length
  few : ts.length ≤ 6
  ths : ∀ (i : Nat) (t : Th) (b : Blk), ts[i]? = some t → bs[i]? = some b → ThOk w κ pc i t b
  kpc : κ pc = .cells
  kbw : κ bw = .cells
  kpm : κ pm = .mach
  ktv : ∀ g, tv.ownBlock = some g → κ g = .mach
  kfr : ∀ b, fr b → κ b = .foreign ∧ b < w.heap.size

/-- A machine of threads that add to one cell; fr: what it never turns. -/
def MInv (fr : Nat → Prop) (w : World) (pc bw pm : Nat) (x st : Int) (ts : List Th) : Prop := ∃ κ bs tv, MOk fr w κ pc bw pm x st ts bs tv

theorem MOk.ch0 {fr : Nat → Prop} {w w' : World} {κ : Nat → Tag} {pc bw pm : Nat} {x st : Int} {ts : List Th} {bs : List Blk} {tv : Value} (h : MOk fr w κ pc bw pm x st ts bs tv) (k : Ch [] w w') : MOk fr w' κ pc bw pm x st ts bs tv :=
  ⟨h.cells.ch k (by simp) (by simp), h.mach.ch k (by simp), ownsRow_ch h.row k (by simp), h.len, h.few, fun i t b ht hb => (h.ths i t b ht hb).ch k (by simp), h.kpc, h.kbw, h.kpm, h.ktv, fun b hb => ⟨(h.kfr b hb).1, Nat.lt_of_lt_of_le (h.kfr b hb).2 k.size⟩⟩

theorem MInv.ch0 {fr : Nat → Prop} {w w' : World} {pc bw pm : Nat} {x st : Int} {ts : List Th} (h : MInv fr w pc bw pm x st ts) (k : Ch [] w w') : MInv fr w' pc bw pm x st ts := by
  obtain ⟨κ, bs, tv, h⟩ := h
  exact ⟨κ, bs, tv, h.ch0 k⟩

theorem MInv.less {fr fr' : Nat → Prop} {w : World} {pc bw pm : Nat} {x st : Int} {ts : List Th} (h : MInv fr w pc bw pm x st ts) (hf : ∀ z, fr' z → fr z) : MInv fr' w pc bw pm x st ts := by
  obtain ⟨κ, bs, tv, h⟩ := h
  exact ⟨κ, bs, tv, h.cells, h.mach, h.row, h.len, h.few, h.ths, h.kpc, h.kbw, h.kpm, h.ktv, fun b hb => h.kfr b (hf b hb)⟩

/-- Blocks that came behind may be told to be no business of the machine's. -/
theorem MInv.more {fr : Nat → Prop} {w w' : World} {pc bw pm : Nat} {x st : Int} {ts : List Th} (h : MInv fr w pc bw pm x st ts) (k : Ch [] w w') : MInv (fun z => fr z ∨ (w.heap.size ≤ z ∧ z < w'.heap.size)) w' pc bw pm x st ts := by
  obtain ⟨κ, bs, tv, h⟩ := h
  have hk : ∀ z, z < w.heap.size → (fun z => if z < w.heap.size then κ z else Tag.foreign) z = κ z := fun z hz => if_pos hz
  refine ⟨fun z => if z < w.heap.size then κ z else .foreign, bs, tv, ?_⟩
  have h' : MOk fr w (fun z => if z < w.heap.size then κ z else Tag.foreign) pc bw pm x st ts bs tv :=
    ⟨h.cells, h.mach, h.row, h.len, h.few, fun i t b ht hb => (h.ths i t b ht hb).re (fun z hz _ => hk z hz), (hk _ (lt_of_heap h.cells.hc)).trans h.kpc, (hk _ (lt_of_heap h.cells.hw)).trans h.kbw, (hk _ (lt_of_heap h.mach)).trans h.kpm,
      fun g hg => (hk _ (h.row.lt g hg).2).trans (h.ktv g hg), fun b hb => ⟨(hk _ (h.kfr b hb).2).trans (h.kfr b hb).1, (h.kfr b hb).2⟩⟩
  have h2 := h'.ch0 k
  refine ⟨h2.cells, h2.mach, h2.row, h2.len, h2.few, h2.ths, h2.kpc, h2.kbw, h2.kpm, h2.ktv, fun b hb => ?_⟩
  rcases hb with hb | hb
  · exact h2.kfr b hb
  · exact ⟨if_neg (by omega), hb.2⟩

/-- What is kept: the blocks of fr. -/
structure Kp (fr : Nat → Prop) (w w' : World) : Prop where
  os : w'.os = w.os
  tape : w'.tape = w.tape
  output : w'.output = w.output
  size : w.heap.size ≤ w'.heap.size
  block : ∀ k, fr k → w'.heap[k]? = w.heap[k]?

theorem Kp.refl (fr : Nat → Prop) (w : World) : Kp fr w w := ⟨rfl, rfl, rfl, Nat.le_refl _, fun _ _ => rfl⟩
theorem Kp.trans {fr : Nat → Prop} {a b c : World} (h : Kp fr a b) (k : Kp fr b c) : Kp fr a c := ⟨k.os.trans h.os, k.tape.trans h.tape, k.output.trans h.output, Nat.le_trans h.size k.size, fun z hz => (k.block z hz).trans (h.block z hz)⟩
theorem Kp.less {fr fr' : Nat → Prop} {a b : World} (h : Kp fr a b) (hf : ∀ z, fr' z → fr z) : Kp fr' a b := ⟨h.os, h.tape, h.output, h.size, fun z hz => h.block z (hf z hz)⟩
theorem Kp.ofCh {fr : Nat → Prop} {ms : List Nat} {a b : World} (h : Ch ms a b) (hf : ∀ z, fr z → z < a.heap.size ∧ z ∉ ms) : Kp fr a b := ⟨h.os, h.tape, h.output, h.size, fun z hz => h.block z (hf z hz).1 (hf z hz).2⟩

section
variable {fr : Nat → Prop} {w : World} {κ : Nat → Tag} {pc bw pm : Nat} {x st : Int} {ts : List Th} {bs : List Blk} {tv : Value}

/-- A row's value is a slice. -/
theorem row_slice {base : Nat} {e : TypeId} {size : Nat} {v : Value} {n : Nat} {xs : List Value} (h : w.ownsRow base e size v n xs) : ∃ a c, v = .slice a n c := by
  rcases h.2 with ⟨rfl, rfl⟩ | ⟨g, cap, cur, rfl, _⟩
  · exact ⟨_, _, rfl⟩
  · exact ⟨_, _, rfl⟩
theorem row_some {base : Nat} {e : TypeId} {size : Nat} {v : Value} {n : Nat} {xs : List Value} (h : w.ownsRow base e size v n xs) (hn : 0 < n) : ∃ g c, v = .slice (some ⟨g, 0, none⟩) n c := by
  rcases h.2 with ⟨rfl, rfl⟩ | ⟨g, cap, cur, rfl, _⟩
  · omega
  · exact ⟨_, _, rfl⟩

theorem MOk.threads (h : MOk fr w κ pc bw pm x st ts bs tv) : Calls Try.prog 82 #[.pointer (some ⟨pm, 0, none⟩)] w fun e w' => e = .returned (.int .i64 ts.length) ∧ w = w' := by
  have hM := h.mach
  obtain ⟨a, c, e⟩ := row_slice h.row
  rw [e] at hM
  exact threads_any w pm a _ c hM

/-- Whether a thread is there, and not done. -/
def live (ts : List Th) (t : Nat) : Bool := match ts[t]? with
  | some th => decide (th.vs.length < th.ds.length)
  | none => false

theorem live_yes {ts : List Th} {t : Nat} (h : live ts t = true) : ∃ th, ts[t]? = some th ∧ th.vs.length < th.ds.length := by
  unfold live at h
  split at h
  · rename_i th e; exact ⟨th, e, by simpa using h⟩
  · simp at h
theorem live_no {ts : List Th} {t : Nat} {th : Th} (h : live ts t = false) (ht : ts[t]? = some th) : th.ds.length ≤ th.vs.length := by
  unfold live at h
  rw [ht] at h
  simpa using h
theorem live_of {ts : List Th} {t : Nat} {th : Th} (ht : ts[t]? = some th) : live ts t = decide (th.vs.length < th.ds.length) := by
  unfold live
  rw [ht]

theorem MOk.blk (h : MOk fr w κ pc bw pm x st ts bs tv) {t : Nat} {th : Th} (ht : ts[t]? = some th) : ∃ b, bs[t]? = some b ∧ ThOk w κ pc t th b := by
  have hl : t < bs.length := by rw [h.len]; exact (List.getElem?_eq_some_iff.1 ht).1
  exact ⟨bs[t], List.getElem?_eq_getElem hl, h.ths t th _ ht (List.getElem?_eq_getElem hl)⟩

theorem MOk.cellp (h : MOk fr w κ pc bw pm x st ts bs tv) {t : Nat} {b : Blk} (hb : bs[t]? = some b) : ∃ g c, tv = .slice (some ⟨g, 0, none⟩) ts.length c ∧ w.cell? ⟨g, t, none⟩ = some (.pointer (some ⟨b.p, 0, none⟩)) := by
  have hl : t < bs.length := (List.getElem?_eq_some_iff.1 hb).1
  obtain ⟨g, c, e⟩ := row_some h.row (by rw [← h.len]; omega)
  have hr := h.row
  rw [e] at hr
  exact ⟨g, c, e, row_cell hr (by simp [hb]; rfl)⟩

theorem MOk.thread_no (h : MOk fr w κ pc bw pm x st ts bs tv) (t : Nat) (hl : live ts t = false) : Calls Try.prog 48 #[.pointer (some ⟨pm, 0, none⟩), .int .i64 t] w fun e w' => e = .returned (.pointer none) ∧ w = w' := by
  have hM := h.mach
  cases ht : ts[t]? with
  | none =>
    obtain ⟨a, c, e⟩ := row_slice h.row
    rw [e] at hM
    exact thread_out w pm t a _ c hM (by simpa using ht)
  | some th =>
    obtain ⟨b, hb, hT⟩ := h.blk ht
    obtain ⟨g, c, e, hc⟩ := h.cellp hb
    rw [e] at hM
    have h1 := hT.thr
    have h2 := live_no hl ht
    have h3 : b.qs[th.vs.length]? = none := by rw [List.getElem?_eq_none_iff, hT.len]; exact h2
    rw [h3] at h1
    exact thread_done w pm t g _ c b.p _ _ hM (List.getElem?_eq_some_iff.1 ht).1 hc h1

theorem MOk.thread_yes (h : MOk fr w κ pc bw pm x st ts bs tv) {t : Nat} {th : Th} {b : Blk} (ht : ts[t]? = some th) (hb : bs[t]? = some b) (hl : th.vs.length < th.ds.length) : Calls Try.prog 48 #[.pointer (some ⟨pm, 0, none⟩), .int .i64 t] w fun e w' => e = .returned (.pointer (some ⟨b.p, 0, none⟩)) ∧ w = w' := by
  have hM := h.mach
  have hT := h.ths t th b ht hb
  obtain ⟨g, c, e, hc⟩ := h.cellp hb
  rw [e] at hM
  have h1 := hT.thr
  have hlt : th.vs.length < b.qs.length := by rw [hT.len]; exact hl
  rw [List.getElem?_eq_getElem hlt] at h1
  exact thread_there w pm t g _ c b.p _ _ _ hM (List.getElem?_eq_some_iff.1 ht).1 hc h1

theorem MOk.done (h : MOk fr w κ pc bw pm x st ts bs tv) (t : Nat) : Calls Try.prog 54 #[.pointer (some ⟨pm, 0, none⟩), .int .i64 t] w fun e w' => e = .returned (.bool (!live ts t)) ∧ w = w' := by
  cases hl : live ts t with
  | false => exact mdone_yes w pm t (h.thread_no t hl)
  | true =>
    obtain ⟨th, ht, hlt⟩ := live_yes hl
    obtain ⟨b, hb, _⟩ := h.blk ht
    exact mdone_no w pm t b.p (h.thread_yes ht hb hlt)

theorem sel_ext {f g : Nat → Bool} {k : Nat} (h : ∀ t, f t = g t) : sel f k = sel g k := by rw [show f = g from funext h]

/-- Over. -/
theorem MInv.over (h : MInv fr w pc bw pm x st ts) : Calls Try.prog 16 #[.pointer (some ⟨pm, 0, none⟩)] w fun e w' => e = .returned (.bool (sel (live ts) ts.length).isEmpty) ∧ Ch [] w w' := by
  obtain ⟨κ, bs, tv, h⟩ := h
  have := mover pm ts.length (fun t => !live ts t) w (by have := h.few; omega) (fun W hW => (h.ch0 hW).threads) (fun W hW t _ => (h.ch0 hW).done t)
  rw [sel_ext (g := live ts) (fun t => Bool.not_not _)] at this
  exact this

theorem MOk.can (h : MOk fr w κ pc bw pm x st ts bs tv) (t : Nat) : Calls Try.prog 57 #[.pointer (some ⟨pm, 0, none⟩), .agg #[.int .i64 t, .int .i64 0]] w fun e w' => e = .returned (.bool (live ts t)) ∧ Ch [] w w' := by
  cases hl : live ts t with
  | false => exact can_no pm t w (fun W hW => (h.ch0 hW).thread_no t hl)
  | true =>
    obtain ⟨th, ht, hlt⟩ := live_yes hl
    obtain ⟨b, hb, hT⟩ := h.blk ht
    have hlt' : th.vs.length < b.qs.length := by rw [hT.len]; exact hlt
    have hq := List.getElem?_eq_getElem hlt'
    have h1 := hT.thr
    rw [hq] at h1
    obtain ⟨pp, b0, b1, b2, hF, _⟩ := hT.fresh _ _ _ (Nat.le_refl _) hq (List.getElem?_eq_getElem hlt)
    exact can_yes pm t b.p _ _ _ w (fun W hW => (h.ch0 hW).thread_yes ht hb hlt) h1 (fun W hW => can_op W _ pp 0 0 _ 42 _ none 0 false (hF.ch hW (by simp)).task (hF.ch hW (by simp)).point)

/-- Able. -/
theorem MInv.able (h : MInv fr w pc bw pm x st ts) : Calls Try.prog 17 #[.pointer (some ⟨pm, 0, none⟩)] w (RowOut w (sel (live ts) ts.length)) := by
  obtain ⟨κ, bs, tv, h⟩ := h
  exact mable pm ts.length (live ts) w (by have := h.few; omega) (fun W hW => (h.ch0 hW).threads) (fun W hW t _ => (h.ch0 hW).can t)

/-- A pick of a thread that is done, or not there. -/
theorem MInv.pick_no (h : MInv fr w pc bw pm x st ts) (t : Nat) (k : Int) (hl : live ts t = false) : Calls Try.prog 14 #[.pointer (some ⟨pm, 0, none⟩), .agg #[.int .i64 t, .int .i64 k]] w fun e w' => e = .returned (.bool false) ∧ Ch [] w w' := by
  obtain ⟨κ, bs, tv, h⟩ := h
  exact pick_none w pm t k (fun W hW => (h.ch0 hW).thread_no t hl)
end

end Go.Proofs.Ytejedbknpjffkaa
