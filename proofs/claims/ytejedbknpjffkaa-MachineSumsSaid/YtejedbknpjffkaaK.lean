/- A pick that does a step, and the cell's load, at a machine of threads that add; conditions: as at the machine's word. -/
import Derived.Test.YtejedbknpjffkaaJ
namespace Go.Proofs.Ytejedbknpjffkaa
open Go.RowKit

theorem getElem?_set_eq' {α : Type} (l : List α) (t i : Nat) (a : α) : (l.set t a)[i]? = if t = i then (if t < l.length then some a else none) else l[i]? := List.getElem?_set

theorem map_set_same {α β : Type} (f : α → β) (l : List α) (t : Nat) (a a' : α) (h : l[t]? = some a) (hf : f a' = f a) : (l.set t a').map f = l.map f := by
  apply List.ext_getElem?
  intro i
  rw [List.getElem?_map, List.getElem?_map, List.getElem?_set]
  by_cases e : t = i
  · subst e
    obtain ⟨hl, hv⟩ := List.getElem?_eq_some_iff.1 h
    rw [if_pos rfl, if_pos hl, h]
    simp [hf]
  · rw [if_neg e]

theorem nodup_ne {qs : List Nat} (h : qs.Nodup) {i j a b : Nat} (hi : qs[i]? = some a) (hj : qs[j]? = some b) (hne : i ≠ j) : a ≠ b := by
  intro e
  subst e
  obtain ⟨hl, hv⟩ := List.getElem?_eq_some_iff.1 hi
  obtain ⟨hl', hv'⟩ := List.getElem?_eq_some_iff.1 hj
  have hp := List.pairwise_iff_getElem.1 h
  rcases Nat.lt_or_gt_of_ne hne with c | c
  · exact hp i j hl hl' c (hv.trans hv'.symm)
  · exact hp j i hl' hl c (hv'.trans hv.symm)

section
variable {fr : Nat → Prop} {w : World} {κ : Nat → Tag} {pc bw pm : Nat} {x st : Int} {ts : List Th} {bs : List Blk} {tv : Value}

theorem ThOk.next {w2 : World} {ms : List Nat} {t : Nat} {th : Th} {b : Blk} (h : ThOk w κ pc t th b) (k : Ch ms w w2) (hm : ∀ m ∈ ms, κ m ≠ .fixed) (i : Nat) (vi : Int) (hv : vi = i) :
    Calls Try.prog 46 #[.int .i64 vi, .pointer (some ⟨b.bl, 0, none⟩)] w2 fun e w' => e = .returned (ptrTo b.qs[i]?) ∧ w2 = w' := by
  have hb := h.box.ch k (fun hi => hm _ hi h.kbl)
  have hr := ownsRow_ch h.lrow k (fun g hg hi => hm _ hi (h.klv g hg))
  by_cases hi : i < b.qs.length
  · obtain ⟨g, c, e⟩ := row_some hr (by rw [← h.len]; omega)
    rw [e] at hb hr
    rw [List.getElem?_eq_getElem hi]
    exact next_in w2 b.bl g i _ c _ hb (by rw [← h.len]; exact hi) (row_cell hr (by simp [hi]; rfl)) vi hv
  · obtain ⟨a, c, e⟩ := row_slice hr
    rw [e] at hb
    rw [List.getElem?_eq_none (by omega)]
    exact next_out w2 b.bl i _ c a hb (by rw [← h.len]; exact hi) vi hv

/-- A step more of a thread. -/
def stepped (ts : List Th) (t : Nat) (th : Th) (v : Int) : List Th := ts.set t ⟨th.ds, th.vs ++ [v]⟩

set_option maxRecDepth 100000 in
theorem MInv.pick_yes (h : MInv fr w pc bw pm x st ts) {t : Nat} {th : Th} {d : Int} (ht : ts[t]? = some th) (hd : th.ds[th.vs.length]? = some d) :
    Calls Try.prog 14 #[.pointer (some ⟨pm, 0, none⟩), .agg #[.int .i64 t, .int .i64 0]] w fun e w' => e = .returned (.bool true) ∧
      MInv fr w' pc bw pm (IntKind.u64.wrap (x + d)) (wrap64 (st + 1)) (stepped ts t th (wrap64 (IntKind.u64.wrap (x + d)))) ∧ Kp fr w w' := by
  obtain ⟨κ, bs, tv, h⟩ := h
  obtain ⟨b, hb, hT⟩ := h.blk ht
  have hlt : th.vs.length < th.ds.length := (List.getElem?_eq_some_iff.1 hd).1
  have hlt' : th.vs.length < b.qs.length := by rw [hT.len]; exact hlt
  obtain ⟨q, hq⟩ : ∃ q, b.qs[th.vs.length]? = some q := ⟨_, List.getElem?_eq_getElem hlt'⟩
  have h1 := hT.thr
  rw [hq] at h1
  obtain ⟨pp, b0, b1, b2, hF, k1, k2, k3, k4⟩ := hT.fresh _ _ _ (Nat.le_refl _) hq hd
  have kq := (hT.kqs q (List.mem_of_getElem? hq)).1
  have hms : ∀ m ∈ [pc, bw, q, b.p] ++ b.vv.ownBlock.toList, κ m = .cells ∨ κ m = .tasks t ∨ κ m = .thr t ∨ κ m = .vals t := by
    intro m hm
    rcases List.mem_append.1 hm with hm | hm
    · simp only [List.mem_cons, List.not_mem_nil, or_false] at hm
      rcases hm with rfl | rfl | rfl | rfl
      · exact .inl h.kpc
      · exact .inl h.kbw
      · exact .inr (.inl kq)
      · exact .inr (.inr (.inl hT.kp))
    · exact .inr (.inr (.inr (hT.kvv m (by simpa using hm))))
  have hmf : ∀ m ∈ [pc, bw, q, b.p] ++ b.vv.ownBlock.toList, κ m ≠ .fixed := by
    intro m hm e
    rcases hms m hm with h | h | h | h <;> rw [h] at e <;> cases e
  have P := pick_add w pm t b.p q pc bw pp b0 b1 b2 b.bl th.vs.length 0 x d st b.vv (th.vs.map (Value.int .i64)) (fun W hW => (h.ch0 hW).thread_yes ht hb hlt) h.cells h1 hF hT.vrow (by have := hT.few; omega) (Nat.zero_le _)
    b.qs[th.vs.length + 1]? (fun w2 k => hT.next k hmf _ _ (by simp)) (by
      intro q' hq'
      refine ⟨nodup_ne hT.nodup hq' hq (by omega), ?_⟩
      have hl2 : th.vs.length + 1 < th.ds.length := by rw [← hT.len]; exact (List.getElem?_eq_some_iff.1 hq').1
      obtain ⟨pp', c0, c1, c2, hF', _⟩ := hT.fresh _ _ _ (by omega) hq' (List.getElem?_eq_getElem hl2)
      exact ⟨pp', 0, _, hF'.task⟩)
  refine P.mono ?_
  rintro e w' ⟨rfl, hC, g, cap, hT', hR', hch, hg⟩
  have hsz := hch.size
  refine ⟨rfl, ?_, Kp.ofCh hch (fun z hz => ⟨(h.kfr z hz).2, fun hm => by
    have e := (h.kfr z hz).1
    rcases hms z hm with h | h | h | h <;> rw [h] at e <;> cases e⟩)⟩
  -- the labels: what is new is the thread's values
  let κ' : Nat → Tag := fun z => if z < w.heap.size then κ z else .vals t
  have hk : ∀ z, z < w.heap.size → κ' z = κ z := fun z hz => if_pos hz
  have hms' : ∀ m ∈ [pc, bw, q, b.p] ++ b.vv.ownBlock.toList, κ' m = .cells ∨ κ' m = .tasks t ∨ κ' m = .thr t ∨ κ' m = .vals t := by
    intro m hm
    by_cases hz : m < w.heap.size
    · rw [hk m hz]; exact hms m hm
    · exact .inr (.inr (.inr (if_neg hz)))
  have hmf' : ∀ m ∈ [pc, bw, q, b.p] ++ b.vv.ownBlock.toList, κ' m ≠ .fixed := by
    intro m hm e
    rcases hms' m hm with h | h | h | h <;> rw [h] at e <;> cases e
  have hmm : ∀ m ∈ [pc, bw, q, b.p] ++ b.vv.ownBlock.toList, κ' m ≠ .mach := by
    intro m hm e
    rcases hms' m hm with h | h | h | h <;> rw [h] at e <;> cases e
  have hT2 : ThOk w κ' pc t th b := hT.re (fun z hz _ => hk z hz)
  have hg' : κ' g = .vals t := by
    rcases hg with hg | hg
    · exact (hk g (hT.vrow.lt g hg).2).trans (hT.kvv g hg)
    · exact if_neg (by omega)
  let b' : Blk := { b with vv := .slice (some ⟨g, 0, none⟩) (th.vs.length + 1) cap }
  refine ⟨κ', bs.set t b', tv, hC, h.mach.ch hch (fun hm => hmm _ hm ((hk _ (lt_of_heap h.mach)).trans h.kpm)), ?_, by simp [stepped, h.len], by simpa [stepped] using h.few, ?_, (hk _ (lt_of_heap h.cells.hc)).trans h.kpc, (hk _ (lt_of_heap h.cells.hw)).trans h.kbw, (hk _ (lt_of_heap h.mach)).trans h.kpm,
    fun z hz => (hk _ (h.row.lt z hz).2).trans (h.ktv z hz), fun z hz => ⟨(hk _ (h.kfr z hz).2).trans (h.kfr z hz).1, Nat.lt_of_lt_of_le (h.kfr z hz).2 hsz⟩⟩
  · rw [map_set_same (fun b => pv b.p) bs t b b' hb rfl]
    have := ownsRow_ch h.row hch (fun z hz hm => hmm _ hm ((hk _ (h.row.lt z hz).2).trans (h.ktv z hz)))
    simpa [stepped] using this
  · intro i ti bi hti hbi
    by_cases e : t = i
    · subst e
      have htl := (List.getElem?_eq_some_iff.1 ht).1
      have hbl := (List.getElem?_eq_some_iff.1 hb).1
      have e1 : ti = ⟨th.ds, th.vs ++ [wrap64 (IntKind.u64.wrap (x + d))]⟩ := by
        rw [stepped, List.getElem?_set, if_pos rfl, if_pos htl] at hti; exact (Option.some.inj hti).symm
      have e2 : bi = b' := by
        rw [List.getElem?_set, if_pos rfl, if_pos hbl] at hbi; exact (Option.some.inj hbi).symm
      subst e1; subst e2
      refine ⟨?_, hT2.box.ch hch (fun hm => hmf' _ hm hT2.kbl), ownsRow_ch hT2.lrow hch (fun z hz hm => hmf' _ hm (hT2.klv z hz)), ?_, hT2.len, ?_, hT2.few, hT2.nodup, ?_, hT2.kp, hT2.kbl, hT2.klv, ?_, fun z hz => ⟨(hT2.kqs z hz).1, Nat.lt_of_lt_of_le (hT2.kqs z hz).2 hsz⟩⟩
      · simpa using hT'
      · simpa using hR'
      · simp; omega
      · intro j qj dj hj hqj hdj
        have hj' : th.vs.length + 1 ≤ j := by simpa using hj
        obtain ⟨pp', c0, c1, c2, hF', m1, m2, m3, m4⟩ := hT2.fresh j qj dj (by omega) hqj hdj
        refine ⟨pp', c0, c1, c2, hF'.ch hch ⟨?_, fun hm => hmf' _ hm m1, fun hm => hmf' _ hm m2, fun hm => hmf' _ hm m3, fun hm => hmf' _ hm m4⟩, m1, m2, m3, m4⟩
        have hne : qj ≠ q := nodup_ne hT2.nodup hqj hq (by omega)
        have kj := (hT2.kqs qj (List.mem_of_getElem? hqj)).1
        intro hm
        rcases List.mem_append.1 hm with hm | hm
        · simp only [List.mem_cons, List.not_mem_nil, or_false] at hm
          rcases hm with e | e | e | e
          · rw [e, (hk _ (lt_of_heap h.cells.hc)).trans h.kpc] at kj; cases kj
          · rw [e, (hk _ (lt_of_heap h.cells.hw)).trans h.kbw] at kj; cases kj
          · exact hne e
          · rw [e, hT2.kp] at kj; cases kj
        · rw [hT2.kvv qj (by simpa using hm)] at kj; cases kj
      · intro z hz
        have : z = g := by simpa [b', Value.ownBlock] using hz.symm
        rw [this]; exact hg'
    · have hti' : ts[i]? = some ti := by rw [stepped, List.getElem?_set, if_neg e] at hti; exact hti
      have hbi' : bs[i]? = some bi := by rw [List.getElem?_set, if_neg e] at hbi; exact hbi
      refine ((h.ths i ti bi hti' hbi').re (κ' := κ') (fun z hz _ => hk z hz)).ch hch ?_
      intro m hm
      refine ⟨hmf' m hm, ?_⟩
      rcases hms' m hm with h | h | h | h <;> rw [h] <;> simp [e]

theorem MOk.at_cells {w' : World} {st' : Int} (h : MOk fr w κ pc bw pm x st ts bs tv) (hC : CellsAt w' pc bw [x] st') (hch : Ch [pc] w w') : MOk fr w' κ pc bw pm x st' ts bs tv ∧ Kp fr w w' := by
  have hsz := hch.size
  have hm : ∀ z, κ z ≠ .cells → z ∉ [pc] := fun z hz hm => hz (by simp at hm; rw [hm]; exact h.kpc)
  refine ⟨⟨hC, h.mach.ch hch (hm _ (by rw [h.kpm]; simp)), ownsRow_ch h.row hch (fun z hz => hm _ (by rw [h.ktv z hz]; simp)), h.len, h.few, fun i t b ht hb => (h.ths i t b ht hb).ch hch ?_, h.kpc, h.kbw, h.kpm, h.ktv, fun z hz => ⟨(h.kfr z hz).1, Nat.lt_of_lt_of_le (h.kfr z hz).2 hsz⟩⟩,
    Kp.ofCh hch (fun z hz => ⟨(h.kfr z hz).2, hm z (by rw [(h.kfr z hz).1]; simp)⟩)⟩
  intro m hm
  have : m = pc := by simpa using hm
  rw [this, h.kpc]
  simp

/-- Load of the cell. -/
theorem MInv.load (h : MInv fr w pc bw pm x st ts) : Calls Try.prog 15 #[.pointer (some ⟨pc, 0, none⟩), .int .i64 0] w fun e w' => e = .returned (.int .u64 x) ∧ MInv fr w' pc bw pm x (wrap64 (st + 1)) ts ∧ Kp fr w w' ∧ Ch [pc] w w' := by
  obtain ⟨κ, bs, tv, h⟩ := h
  refine (cells_load pc bw 0 [x] st w (by simp) h.cells).mono ?_
  rintro e w' ⟨rfl, hC, hch⟩
  obtain ⟨h1, h2⟩ := h.at_cells hC hch
  exact ⟨rfl, ⟨κ, bs, tv, h1⟩, h2, hch⟩

/-- It stays where foreign blocks turn. -/
theorem MInv.kept {w' : World} {ms : List Nat} (h : MInv fr w pc bw pm x st ts) (k : Ch ms w w') (hm : ∀ m ∈ ms, fr m) : MInv fr w' pc bw pm x st ts := by
  obtain ⟨κ, bs, tv, h⟩ := h
  have hf : ∀ m ∈ ms, κ m = .foreign := fun m hi => (h.kfr m (hm m hi)).1
  have hn : ∀ z, κ z ≠ .foreign → z ∉ ms := fun z hz hi => hz (hf z hi)
  refine ⟨κ, bs, tv, h.cells.ch k (hn _ (by rw [h.kpc]; simp)) (hn _ (by rw [h.kbw]; simp)), h.mach.ch k (hn _ (by rw [h.kpm]; simp)), ownsRow_ch h.row k (fun z hz => hn _ (by rw [h.ktv z hz]; simp)), h.len, h.few, fun i t b ht hb => (h.ths i t b ht hb).ch k ?_, h.kpc, h.kbw, h.kpm, h.ktv, fun z hz => ⟨(h.kfr z hz).1, Nat.lt_of_lt_of_le (h.kfr z hz).2 k.size⟩⟩
  intro m hi
  rw [hf m hi]
  simp
end

end Go.Proofs.Ytejedbknpjffkaa
