/- A machine's start, and a thread more; conditions: the tasks' blocks came behind the machine's. -/
import Derived.Test.YtejedbknpjffkaaK
namespace Go.Proofs.Ytejedbknpjffkaa
open Go.RowKit

theorem MInv.start {fr : Nat → Prop} {w : World} {pc bw pm : Nat} {x st : Int} (hC : CellsAt w pc bw [x] st) (hM : MachAt w pm (.slice none 0 0)) (hf : ∀ z, fr z → z < w.heap.size ∧ z ≠ pc ∧ z ≠ bw ∧ z ≠ pm) : MInv fr w pc bw pm x st [] := by
  have n1 : pm ≠ pc := ne_type hM hC.hc (by decide)
  have n2 : pm ≠ bw := ne_type hM hC.hw (by decide)
  refine ⟨fun z => if z = pc then .cells else if z = bw then .cells else if z = pm then .mach else .foreign, [], .slice none 0 0, hC, hM, World.ownsRow_nil _ _ _ _, rfl, by simp, by simp, if_pos rfl, by simp, by simp [n1, n2], by simp [Value.ownBlock], ?_⟩
  intro z hz
  obtain ⟨h1, h2, h3, h4⟩ := hf z hz
  exact ⟨by simp [h2, h3, h4], h1⟩

section
variable {fr : Nat → Prop} {A w w' : World} {κ : Nat → Tag} {pc bw pm : Nat} {x st : Int} {ts : List Th} {bs : List Blk} {tv : Value}

theorem MOk.added (h : MOk fr A κ pc bw pm x st ts bs tv) (k : Ch [] A w) {qs : List Nat} {ds : List Int} (hts : ts.length < 6) (hl : qs.length = ds.length) (hfew : ds.length ≤ 10) (hnd : qs.Nodup)
    (hp : ∀ (j q : Nat) (d : Int), qs[j]? = some q → ds[j]? = some d → ∃ pp b0 b1 b2, FreshAdd w q pc 0 d pp b0 b1 b2 ∧ A.heap.size ≤ pp ∧ A.heap.size ≤ b0 ∧ A.heap.size ≤ b1 ∧ A.heap.size ≤ b2) (hq : ∀ q ∈ qs, A.heap.size ≤ q)
    {e : Ending} (ha : AddedThread w pm ts.length 0 tv (bs.map fun b => pv b.p) (qs.map pv) qs[0]? e w') :
    e = .returned (.int .i64 ts.length) ∧ MInv fr w' pc bw pm x st (ts ++ [⟨ds, []⟩]) ∧ Kp fr A w' := by
  obtain ⟨p, bl, g, cap, lv, rfl, a1, a2, a3, a4, a5, a6, a7, a8, a9⟩ := ha
  have hs := k.size
  have hs8 := a8.size
  have hqd : ∀ j q, qs[j]? = some q → ∃ d, ds[j]? = some d := fun j q hj => ⟨_, List.getElem?_eq_getElem (by rw [← hl]; exact (List.getElem?_eq_some_iff.1 hj).1)⟩
  have hqt : ∀ q ∈ qs, ∃ pp, TaskAt w q (some pp) 0 (.slice none 0 0) := by
    intro q hm
    obtain ⟨j, hj⟩ := List.mem_iff_getElem?.1 hm
    obtain ⟨d, hd⟩ := hqd j q hj
    obtain ⟨pp, _, _, _, hF, _⟩ := hp j q d hj hd
    exact ⟨pp, hF.task⟩
  have hqlt : ∀ q ∈ qs, q < w.heap.size := fun q hm => by obtain ⟨pp, ht⟩ := hqt q hm; exact lt_of_heap ht
  have hlt : ∀ z, z < A.heap.size → z ∉ qs := fun z hz hm => by have := hq z hm; omega
  have hge : ∀ z, w.heap.size ≤ z → z ∉ qs := fun z hz hm => by have := hqlt z hm; omega
  have gold : ∀ z, tv.ownBlock = some z → z < A.heap.size := fun z hz => (h.row.lt z hz).2
  let κ' : Nat → Tag := fun z => if z < A.heap.size then κ z else if z ∈ qs then .tasks ts.length else if z = p then .thr ts.length else if z = g then .mach else .fixed
  have hk : ∀ z, z < A.heap.size → κ' z = κ z := fun z hz => if_pos hz
  have kq : ∀ q ∈ qs, κ' q = .tasks ts.length := fun q hm => by simp only [κ']; rw [if_neg (by have := hq q hm; omega), if_pos hm]
  have kp : κ' p = .thr ts.length := by simp only [κ']; rw [if_neg (by omega), if_neg (hge p a1)]; simp
  have hMg : ∃ cur, w'.heap[g]? = some (.cells cur 100) := ownsRow_row a7 rfl
  obtain ⟨cur, hMg⟩ := hMg
  have hgp : g ≠ p := ne_type hMg a3 (by decide)
  have kg : κ' g = .mach := by
    rcases a9 with e | e
    · exact (hk g (gold g e)).trans (h.ktv g e)
    · simp only [κ']; rw [if_neg (by omega), if_neg (hge g e), if_neg hgp]; simp
  have knew : ∀ z, w.heap.size ≤ z → z ≠ p → z ≠ g → κ' z = .fixed := fun z hz h1 h2 => by simp only [κ']; rw [if_neg (by omega), if_neg (hge z hz), if_neg h1, if_neg h2]
  have kmid : ∀ z, A.heap.size ≤ z → z < w.heap.size → z ∉ qs → κ' z = .fixed := fun z h1 h2 h3 => by
    simp only [κ']; rw [if_neg (by omega), if_neg h3, if_neg (by omega), if_neg]
    intro e
    rcases a9 with h | h
    · have := gold g h; omega
    · omega
  have hms : ∀ m ∈ pm :: tv.ownBlock.toList, κ' m = .mach := by
    intro m hm
    rcases List.mem_cons.1 hm with e | hm
    · rw [e]; exact (hk _ (lt_of_heap h.mach)).trans h.kpm
    · have e : tv.ownBlock = some m := by simpa using hm
      exact (hk _ (gold m e)).trans (h.ktv m e)
  have hnm : ∀ z, κ' z ≠ .mach → z ∉ pm :: tv.ownBlock.toList := fun z hz hm => hz (hms z hm)
  have hin : ∀ m ∈ pm :: tv.ownBlock.toList, m < A.heap.size := by
    intro m hm
    rcases List.mem_cons.1 hm with e | hm
    · rw [e]; exact lt_of_heap h.mach
    · exact gold m (by simpa using hm)
  have hw := h.ch0 k
  have hch : Ch (pm :: tv.ownBlock.toList) A w' := (k.mono (by simp)).trans a8
  have hkf : ∀ z, fr z → κ' z = .foreign := fun z hz => (hk _ (h.kfr z hz).2).trans (h.kfr z hz).1
  refine ⟨rfl, ⟨κ', bs ++ [⟨p, bl, lv, .slice none 0 0, qs⟩], _, ?_, a6, ?_, by simp [h.len], by simp; omega, ?_, (hk _ (lt_of_heap h.cells.hc)).trans h.kpc, (hk _ (lt_of_heap h.cells.hw)).trans h.kbw, (hk _ (lt_of_heap h.mach)).trans h.kpm, ?_, fun z hz => ⟨hkf z hz, Nat.lt_of_lt_of_le (h.kfr z hz).2 hch.size⟩⟩,
    Kp.ofCh hch (fun z hz => ⟨(h.kfr z hz).2, hnm z (by rw [hkf z hz]; simp)⟩)⟩
  · exact h.cells.ch hch (hnm _ (by rw [hk _ (lt_of_heap h.cells.hc), h.kpc]; simp)) (hnm _ (by rw [hk _ (lt_of_heap h.cells.hw), h.kbw]; simp))
  · simpa [pv] using a7
  · intro i t b ht hb
    by_cases hi : i < ts.length
    · rw [List.getElem?_append_left hi] at ht
      rw [List.getElem?_append_left (by rw [h.len]; exact hi)] at hb
      refine ((h.ths i t b ht hb).re (κ' := κ') (fun z hz _ => hk z hz)).ch hch ?_
      intro m hm
      rw [hms m hm]
      simp
    · have hi' : i = ts.length := by
        have := (List.getElem?_eq_some_iff.1 ht).1
        simp at this; omega
      subst hi'
      rw [List.getElem?_append_right (Nat.le_refl _)] at ht
      rw [List.getElem?_append_right (by rw [h.len]; exact Nat.le_refl _)] at hb
      simp only [Nat.sub_self, h.len, List.getElem?_cons_zero, Option.some.injEq] at ht hb
      subst ht; subst hb
      have hbp : bl ≠ p := ne_type a4 a3 (by decide)
      have hbg : bl ≠ g := ne_type a4 hMg (by decide)
      refine ⟨by simpa using a3, a4, ?_, World.ownsRow_nil _ _ _ _, hl, Nat.zero_le _, hfew, hnd, ?_, kp, knew bl a2 hbp hbg, ?_, by simp [Value.ownBlock], fun q hm => ⟨kq q hm, Nat.lt_of_lt_of_le (hqlt q hm) hs8⟩⟩
      · have := ownsRow_low (base' := 0) a5 (Nat.zero_le _)
        rw [List.length_map, hl] at this
        exact this
      · intro j q d _ hqj hdj
        obtain ⟨pp, b0, b1, b2, hF, m1, m2, m3, m4⟩ := hp j q d hqj hdj
        have nq : ∀ z cs t, w.heap[z]? = some (.cells cs t) → t ≠ 144 → z ∉ qs := fun z cs t hz hne hm => by
          obtain ⟨pp, ht⟩ := hqt z hm
          exact ne_type hz ht hne rfl
        refine ⟨pp, b0, b1, b2, hF.ch a8 ⟨fun hm => ?_, fun hm => ?_, fun hm => ?_, fun hm => ?_, fun hm => ?_⟩, kmid pp m1 (lt_of_heap hF.point) (nq _ _ _ hF.point (by decide)), kmid b0 m2 (lt_of_heap hF.h0) (nq _ _ _ hF.h0 (by decide)), kmid b1 m3 (lt_of_heap hF.h1) (nq _ _ _ hF.h1 (by decide)), kmid b2 m4 (lt_of_heap hF.h2) (nq _ _ _ hF.h2 (by decide))⟩
        · have := hin _ hm; have := hq q (List.mem_of_getElem? hqj); omega
        · have := hin _ hm; omega
        · have := hin _ hm; omega
        · have := hin _ hm; omega
        · have := hin _ hm; omega
      · intro z hz
        obtain ⟨cur', hz'⟩ := ownsRow_row a5 hz
        exact knew z (a5.lt z hz).1 (ne_type hz' a3 (by decide)) (ne_type hz' hMg (by decide))
  · intro z hz
    have : z = g := by simpa [Value.ownBlock] using hz.symm
    rw [this]; exact kg

/-- Add of no tasks. -/
theorem MInv.add_nil (h : MInv fr w pc bw pm x st ts) (hts : ts.length < 6) :
    Calls Try.prog 13 #[.pointer (some ⟨pm, 0, none⟩), .slice none 0 0] w fun e w' => e = .returned (.int .i64 ts.length) ∧ MInv fr w' pc bw pm x st (ts ++ [⟨[], []⟩]) ∧ Kp fr w w' := by
  obtain ⟨κ, bs, tv, h⟩ := h
  exact (mach_add_nil w pm ts.length 0 tv _ h.mach h.row (by omega) (Nat.zero_le _)).mono (fun e w' ha => h.added (Ch.refl _ w) (qs := []) (ds := []) hts rfl (by simp) (by simp) (by simp) (by simp) ha)

/-- Add of tasks that add, made since A. -/
theorem MInv.add_some (h : MInv fr A pc bw pm x st ts) (k : Ch [] A w) (hts : ts.length < 6) {qs : List Nat} {ds : List Int} (hl : qs.length = ds.length) (hfew : ds.length ≤ 10) (hne : 0 < qs.length) (hnd : qs.Nodup)
    (hp : ∀ (j q : Nat) (d : Int), qs[j]? = some q → ds[j]? = some d → ∃ pp b0 b1 b2, FreshAdd w q pc 0 d pp b0 b1 b2 ∧ A.heap.size ≤ pp ∧ A.heap.size ≤ b0 ∧ A.heap.size ≤ b1 ∧ A.heap.size ≤ b2) (hq : ∀ q ∈ qs, A.heap.size ≤ q)
    (br m c : Nat) (hm : qs.length = m) (hx : ∀ j q, qs[j]? = some q → w.cell? ⟨br, j, none⟩ = some (pv q)) (hbr : br < w.heap.size) :
    Calls Try.prog 13 #[.pointer (some ⟨pm, 0, none⟩), .slice (some ⟨br, 0, none⟩) m c] w fun e w' => e = .returned (.int .i64 ts.length) ∧ MInv fr w' pc bw pm x st (ts ++ [⟨ds, []⟩]) ∧ Kp fr A w' := by
  obtain ⟨κ, bs, tv, h⟩ := h
  have hw := h.ch0 k
  obtain ⟨q, hq0⟩ : ∃ q, qs[0]? = some q := ⟨_, List.getElem?_eq_getElem hne⟩
  obtain ⟨d, hd0⟩ : ∃ d, ds[0]? = some d := ⟨_, List.getElem?_eq_getElem (by omega)⟩
  obtain ⟨pp, b0, b1, b2, hF, _⟩ := hp 0 q d hq0 hd0
  have P := mach_add_some w pm ts.length 0 br m c q tv (bs.map fun b => pv b.p) (qs.map pv) hw.mach hw.row (by omega) (Nat.zero_le _) (by
      intro j u hu
      rw [List.getElem?_map] at hu
      cases hj : qs[j]? with
      | none => rw [hj] at hu; cases hu
      | some q' => rw [hj] at hu; cases hu; exact hx j q' hj) (by simpa using hm) (by omega) (by omega) (by intro u hu; obtain ⟨z, _, rfl⟩ := List.mem_map.1 hu; rfl) hbr (by rw [List.getElem?_map, hq0]; rfl) pp 0 _ hF.task
  refine P.mono (fun e w' ha => ?_)
  rw [← hq0] at ha
  exact h.added k hts hl hfew hnd hp hq ha
end

end Go.Proofs.Ytejedbknpjffkaa
