/- What threads that add have added: sums and counts; conditions: no thread has done more tasks than it has. -/
import Derived.Test.YtejedbknpjffkaaN
namespace Go.Proofs.Ytejedbknpjffkaa
open Go.RowKit

def Th.sum (t : Th) : Int := (t.ds.take t.vs.length).sum
def Th.tot (t : Th) : Int := t.ds.sum
def dsum (ts : List Th) : Int := (ts.map Th.sum).sum
def dtot (ts : List Th) : Int := (ts.map Th.tot).sum
def cnt (ts : List Th) : Nat := (ts.map fun t => t.vs.length).sum
def num (ts : List Th) : Nat := (ts.map fun t => t.ds.length).sum
/-- No thread has done more tasks than it has. -/
def Fit (ts : List Th) : Prop := ∀ t ∈ ts, t.vs.length ≤ t.ds.length

theorem sum_set_int {α : Type} (f : α → Int) : ∀ (l : List α) (i : Nat) (a b : α), l[i]? = some a → ((l.set i b).map f).sum = (l.map f).sum - f a + f b
  | [], _, _, _, h => by simp at h
  | x :: l, 0, a, b, h => by simp at h; subst h; simp; omega
  | x :: l, i + 1, a, b, h => by
    have := sum_set_int f l i a b (by simpa using h)
    simp only [List.set_cons_succ, List.map_cons, List.sum_cons, this]; omega
theorem sum_set_nat {α : Type} (f : α → Nat) : ∀ (l : List α) (i : Nat) (a b : α), l[i]? = some a → ((l.set i b).map f).sum + f a = (l.map f).sum + f b
  | [], _, _, _, h => by simp at h
  | x :: l, 0, a, b, h => by simp at h; subst h; simp; omega
  | x :: l, i + 1, a, b, h => by
    have := sum_set_nat f l i a b (by simpa using h)
    simp only [List.set_cons_succ, List.map_cons, List.sum_cons]; omega

theorem take_snoc {α : Type} (l : List α) (k : Nat) (d : α) (h : l[k]? = some d) : l.take (k + 1) = l.take k ++ [d] := by
  rw [List.take_add_one, h]; rfl

theorem cnt_step {ts : List Th} {t : Nat} {th : Th} (v : Int) (ht : ts[t]? = some th) : cnt (stepped ts t th v) = cnt ts + 1 := by
  have := sum_set_nat (fun t : Th => t.vs.length) ts t th ⟨th.ds, th.vs ++ [v]⟩ ht
  simp only [List.length_append, List.length_cons, List.length_nil] at this
  unfold cnt stepped; omega
theorem num_step {ts : List Th} {t : Nat} {th : Th} (v : Int) (ht : ts[t]? = some th) : num (stepped ts t th v) = num ts := by
  have := sum_set_nat (fun t : Th => t.ds.length) ts t th ⟨th.ds, th.vs ++ [v]⟩ ht
  simp only at this
  unfold num stepped; omega
theorem dtot_step {ts : List Th} {t : Nat} {th : Th} (v : Int) (ht : ts[t]? = some th) : dtot (stepped ts t th v) = dtot ts := by
  have := sum_set_int Th.tot ts t th ⟨th.ds, th.vs ++ [v]⟩ ht
  show ((ts.set t _).map Th.tot).sum = (ts.map Th.tot).sum
  rw [this]; show _ - th.ds.sum + th.ds.sum = _; omega
theorem dsum_step {ts : List Th} {t : Nat} {th : Th} {d : Int} (v : Int) (ht : ts[t]? = some th) (hd : th.ds[th.vs.length]? = some d) : dsum (stepped ts t th v) = dsum ts + d := by
  have := sum_set_int Th.sum ts t th ⟨th.ds, th.vs ++ [v]⟩ ht
  have h1 : Th.sum ⟨th.ds, th.vs ++ [v]⟩ = Th.sum th + d := by
    simp only [Th.sum, List.length_append, List.length_cons, List.length_nil, Nat.zero_add]
    rw [take_snoc _ _ _ hd, List.sum_append]
    simp
  show ((ts.set t _).map Th.sum).sum = (ts.map Th.sum).sum + d
  rw [this, h1]; omega
theorem fit_step {ts : List Th} {t : Nat} {th : Th} {d : Int} (v : Int) (hf : Fit ts) (hd : th.ds[th.vs.length]? = some d) : Fit (stepped ts t th v) := by
  intro z hz
  rcases List.mem_or_eq_of_mem_set hz with h | h
  · exact hf z h
  · subst h
    have := (List.getElem?_eq_some_iff.1 hd).1
    simp; omega

theorem cnt_le : ∀ (ts : List Th), Fit ts → cnt ts ≤ num ts
  | [], _ => Nat.le_refl _
  | t :: ts, h => by
    have h1 := cnt_le ts (fun z hz => h z (List.mem_cons_of_mem _ hz))
    have h2 := h t (List.mem_cons_self ..)
    unfold cnt num at *
    simp only [List.map_cons, List.sum_cons]; omega

theorem all_of_cnt : ∀ (ts : List Th), Fit ts → cnt ts = num ts → ∀ t ∈ ts, t.vs.length = t.ds.length
  | [], _, _ => by simp
  | t :: ts, h, e => by
    have h1 := cnt_le ts (fun z hz => h z (List.mem_cons_of_mem _ hz))
    have h2 := h t (List.mem_cons_self ..)
    have ih := all_of_cnt ts (fun z hz => h z (List.mem_cons_of_mem _ hz))
    unfold cnt num at *
    simp only [List.map_cons, List.sum_cons] at e
    intro z hz
    rcases List.mem_cons.1 hz with rfl | hz
    · omega
    · exact ih (by omega) z hz

theorem cnt_of_all : ∀ (ts : List Th), (∀ t ∈ ts, t.vs.length = t.ds.length) → cnt ts = num ts ∧ dsum ts = dtot ts
  | [], _ => ⟨rfl, rfl⟩
  | t :: ts, h => by
    obtain ⟨h1, h2⟩ := cnt_of_all ts (fun z hz => h z (List.mem_cons_of_mem _ hz))
    have h3 := h t (List.mem_cons_self ..)
    unfold cnt num dsum dtot at *
    simp only [List.map_cons, List.sum_cons, h1, h2, h3, Th.sum, Th.tot, List.take_length, and_self]

/-- No thread can step: all is done. -/
theorem sel_nil {ts : List Th} (hf : Fit ts) : (sel (live ts) ts.length).isEmpty = true ↔ cnt ts = num ts := by
  rw [List.isEmpty_iff]
  constructor
  · intro h
    refine (cnt_of_all ts (fun t ht => ?_)).1
    obtain ⟨i, hi⟩ := List.mem_iff_getElem?.1 ht
    have hl := (List.getElem?_eq_some_iff.1 hi).1
    have hn : live ts i = false := by
      cases e : live ts i with
      | false => rfl
      | true =>
        have : i ∈ sel (live ts) ts.length := by simp only [sel, List.mem_filter, List.mem_range]; exact ⟨hl, e⟩
        rw [h] at this; simp at this
    have := live_no hn hi
    have := hf t ht
    omega
  · intro h
    rw [List.eq_nil_iff_forall_not_mem]
    intro i hi
    simp only [sel, List.mem_filter, List.mem_range] at hi
    obtain ⟨th, ht, hlt⟩ := live_yes hi.2
    have := all_of_cnt ts hf h th (List.mem_of_getElem? ht)
    omega

theorem over_eq {ts : List Th} (hf : Fit ts) : (sel (live ts) ts.length).isEmpty = decide (cnt ts = num ts) := by
  have := sel_nil hf
  cases h : (sel (live ts) ts.length).isEmpty with
  | true => rw [eq_comm, decide_eq_true_iff]; exact this.1 h
  | false =>
    rw [eq_comm, decide_eq_false_iff_not]
    intro e
    rw [this.2 e] at h; cases h

/-- The threads as they were added. -/
def start (rows : Nat → List Int) (k : Nat) : List Th := (List.range k).map fun r => ⟨(rows r).take 10, []⟩
theorem start_succ (rows : Nat → List Int) (k : Nat) : start rows (k + 1) = start rows k ++ [⟨(rows k).take 10, []⟩] := by simp [start, List.range_succ]
theorem start_len (rows : Nat → List Int) (k : Nat) : (start rows k).length = k := by simp [start]
theorem start_fit (rows : Nat → List Int) (k : Nat) : Fit (start rows k) := by
  intro t ht
  simp only [start, List.mem_map] at ht
  obtain ⟨r, _, rfl⟩ := ht
  simp
theorem start_zero (rows : Nat → List Int) (k : Nat) : cnt (start rows k) = 0 ∧ dsum (start rows k) = 0 := by
  induction k with
  | zero => exact ⟨rfl, rfl⟩
  | succ k ih =>
    rw [start_succ]
    unfold cnt dsum at *
    simp [ih.1, ih.2, Th.sum]

/-- The threads behind some steps: what they add is as it was. -/
def Same (rows : Nat → List Int) (N : Nat) (ts : List Th) : Prop := ts.map Th.ds = (start rows N).map Th.ds
theorem same_step {rows : Nat → List Int} {N : Nat} {ts : List Th} {t : Nat} {th : Th} (v : Int) (h : Same rows N ts) (ht : ts[t]? = some th) : Same rows N (stepped ts t th v) := by
  unfold Same stepped at *
  rw [map_set_same Th.ds ts t th ⟨th.ds, th.vs ++ [v]⟩ ht rfl]; exact h
theorem Same.len {rows : Nat → List Int} {N : Nat} {ts : List Th} (h : Same rows N ts) : ts.length = N := by
  have := congrArg List.length h
  simpa [start_len] using this
theorem Same.ds {rows : Nat → List Int} {N : Nat} {ts : List Th} (h : Same rows N ts) {t : Nat} {th : Th} (ht : ts[t]? = some th) : th.ds = (rows t).take 10 := by
  have hl : t < N := by rw [← h.len]; exact (List.getElem?_eq_some_iff.1 ht).1
  have e : (ts.map Th.ds)[t]? = some th.ds := by rw [List.getElem?_map, ht]; rfl
  rw [h, List.getElem?_map] at e
  simp only [start, List.getElem?_map, List.getElem?_range hl, Option.map_some, Option.some.injEq] at e
  exact e.symm
theorem num_same : ∀ (ts us : List Th), ts.map Th.ds = us.map Th.ds → num ts = num us ∧ dtot ts = dtot us
  | [], [], _ => ⟨rfl, rfl⟩
  | [], _ :: _, h => by simp at h
  | _ :: _, [], h => by simp at h
  | t :: ts, u :: us, h => by
    simp only [List.map_cons, List.cons.injEq] at h
    obtain ⟨h1, h2⟩ := num_same ts us h.2
    unfold num dtot at *
    simp only [List.map_cons, List.sum_cons, h1, h2, Th.tot, h.1, and_self]

theorem u64_add (S d : Int) : IntKind.u64.wrap (S % 18446744073709551616 + d) = (S + d) % 18446744073709551616 := by
  rw [IntKind.wrap_u64]; omega
end Go.Proofs.Ytejedbknpjffkaa
