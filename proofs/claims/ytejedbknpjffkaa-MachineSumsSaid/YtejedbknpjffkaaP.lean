/- The theorem of the stage: its walk; conditions: the arguments' cells are known. -/
import Derived.Test.YtejedbknpjffkaaO
import Derived.Deep.CutRange
import Derived.Maps.AppendAt
import Derived.Deep.CutBlock
import Derived.Deep.DeepCutAuto
namespace Go.Proofs.Ytejedbknpjffkaa
open Go.RowKit

@[go_sem] theorem len22 (w : World) (a : Option Addr) (n c : Nat) : (Builtin.len_ #[22] 3 #[.slice a n c]).run Try.prog w = .ok (.int .i64 n) w := by kernel_rfl
@[go_sem] theorem len31 (w : World) (a : Option Addr) (n c : Nat) : (Builtin.len_ #[31] 3 #[.slice a n c]).run Try.prog w = .ok (.int .i64 n) w := by kernel_rfl
@[go_sem] theorem len23 (w : World) (a : Option Addr) (n c : Nat) : (Builtin.len_ #[23] 3 #[.slice a n c]).run Try.prog w = .ok (.int .i64 n) w := by kernel_rfl

/-- The first argument: its rows' cells. -/
structure ArgL (n₀ : Nat) (w : World) (al : Option Addr) (nl : Nat) (A : Nat → Option Addr) (C : Nat → Nat) (rows : Nat → List Int) : Prop where
  row : ∀ r, r < nl → ∃ a, al = some a ∧ a.block < n₀ ∧ w.cell? (a.add r) = some (.slice (A r) (rows r).length (C r))
  cell : ∀ r, r < nl → ∀ (c : Nat) (z : Int), (rows r)[c]? = some z → 0 ≤ z ∧ z < 256 ∧ ∃ a, A r = some a ∧ a.block < n₀ ∧ w.cell? (a.add c) = some (.int .u8 z)

/-- The second: its picks' cells. -/
def ArgP (n₀ : Nat) (w : World) (ap : Option Addr) (np : Nat) (T : Nat → Int) : Prop :=
  ∀ r, r < np → ∃ a, ap = some a ∧ a.block < n₀ ∧ w.cell? (a.add (r * 2)) = some (.int .i64 (T r))

theorem Kp.cell {n₀ : Nat} {w w' : World} (h : Kp (fun z => z < n₀) w w') {a : Addr} (ha : a.block < n₀) : w'.cell? a = w.cell? a := World.cell?_of_block (h.block a.block ha)

theorem add_block (a : Addr) (n : Nat) : (a.add n).block = a.block := by unfold Addr.add; split <;> rfl

theorem ArgL.ch {n₀ n₁ : Nat} {w w' : World} {al : Option Addr} {nl : Nat} {A : Nat → Option Addr} {C : Nat → Nat} {rows : Nat → List Int} (h : ArgL n₀ w al nl A C rows) (k : Kp (fun z => z < n₀) w w') (hn : n₀ ≤ n₁) : ArgL n₁ w' al nl A C rows := by
  refine ⟨fun r hr => ?_, fun r hr c z hz => ?_⟩
  · obtain ⟨a, e, hb, hc⟩ := h.row r hr
    exact ⟨a, e, Nat.lt_of_lt_of_le hb hn, (k.cell (by rw [add_block]; exact hb)).trans hc⟩
  · obtain ⟨h0, h1, a, e, hb, hc⟩ := h.cell r hr c z hz
    exact ⟨h0, h1, a, e, Nat.lt_of_lt_of_le hb hn, (k.cell (by rw [add_block]; exact hb)).trans hc⟩
theorem ArgP.ch {n₀ n₁ : Nat} {w w' : World} {ap : Option Addr} {np : Nat} {T : Nat → Int} (h : ArgP n₀ w ap np T) (k : Kp (fun z => z < n₀) w w') (hn : n₀ ≤ n₁) : ArgP n₁ w' ap np T := by
  intro r hr
  obtain ⟨a, e, hb, hc⟩ := h r hr
  exact ⟨a, e, Nat.lt_of_lt_of_le hb hn, (k.cell (by rw [add_block]; exact hb)).trans hc⟩

/-- Behind the first loop. -/
def Built (n : Nat) (w1 : World) (pc bw pm : Nat) (rows : Nat → List Int) (k : Nat) (tot st : Value) (wr : World) : Prop :=
  tot = .int .u64 (dtot (start rows k) % 18446744073709551616) ∧ st = .int .i64 (num (start rows k)) ∧ (∃ s, MInv (fun z => z < n) wr pc bw pm 0 s (start rows k)) ∧ Kp (fun z => z < n) w1 wr

theorem ch_cell {w w' : World} (k : Ch [] w w') {p : Addr} {v : Value} (h : w.cell? p = some v) : w'.cell? p = some v := (World.cell?_of_block (k.block p.block (World.block_lt_of_cell? w p h) (by simp))).trans h

theorem info32' : (Try.prog.info? 32).map (fun i => (i.zero, i.size, i.bytes)) = some (some (.pointer none), 1, 8) := info32

/-- Tasks that were made since B, and the row that holds them. -/
structure Pend (B : World) (pc : Nat) (ds : List Int) (qs : List Nat) (own : Value) (wr : World) : Prop where
  ch : Ch [] B wr
  len : qs.length = ds.length
  nodup : qs.Nodup
  lie : ∀ q ∈ qs, B.heap.size ≤ q ∧ q < wr.heap.size
  row : wr.ownsRow B.heap.size 32 1 own ds.length (qs.map pv)
  nil0 : ds = [] → own = .slice none 0 0
  fresh : ∀ (j q : Nat) (d : Int), qs[j]? = some q → ds[j]? = some d → ∃ pp b0 b1 b2, FreshAdd wr q pc 0 d pp b0 b1 b2 ∧ B.heap.size ≤ pp ∧ B.heap.size ≤ b0 ∧ B.heap.size ≤ b1 ∧ B.heap.size ≤ b2

theorem Pend.nil (B : World) (pc : Nat) : Pend B pc [] [] (.slice none 0 0) B := ⟨Ch.refl _ _, rfl, by simp, by simp, World.ownsRow_nil _ _ _ _, fun _ => rfl, by simp⟩

theorem fresh_grown {w w' : World} {p pc i : Nat} {d : Int} {pp b0 b1 b2 base n size : Nat} {v : Value} {xs : List Value} (h : FreshAdd w p pc i d pp b0 b1 b2) (hr : w.ownsRow base 32 size v n xs) (hg : w.grownBy w' v.ownBlock) : FreshAdd w' p pc i d pp b0 b1 b2 :=
  h.ch (ch_grown hg) ⟨not_own hr h.task (by decide), not_own hr h.point (by decide), not_own hr h.h0 (by decide), not_own hr h.h1 (by decide), not_own hr h.h2 (by decide)⟩

theorem Pend.snoc {B wr w4 w5 : World} {pc : Nat} {ds : List Int} {qs : List Nat} {own own' : Value} {z : Int} {o : Obj} (h : Pend B pc ds qs own wr) (hF : FreshAdd w4 (wr.heap.size + 4) pc 0 z (wr.heap.size + 3) wr.heap.size (wr.heap.size + 1) (wr.heap.size + 2)) (hc : Ch [] wr w4)
    (hr : w5.ownsRow B.heap.size 32 1 own' (ds.length + 1) (qs.map pv ++ [pv (wr.heap.size + 4)])) (hg : (w4.alloc o).grownBy w5 own.ownBlock) : Pend B pc (ds ++ [z]) (qs ++ [wr.heap.size + 4]) own' w5 := by
  have ha : Ch [] w4 (w4.alloc o) := (Ch.refl _ _).alloc _
  have h5 := ch_grown hg
  have hB := h.ch.size
  have hb : ∀ g, own.ownBlock = some g → B.heap.size ≤ g := fun g e => (h.row.lt g e).1
  have hrow4 := ownsRow_ch h.row (hc.trans ha) (by simp)
  have hl4 := lt_of_heap hF.task
  have h5s := h5.size
  have hs4 := hc.size
  simp only [World.size_alloc] at h5s
  refine ⟨((h.ch.trans hc).trans ha).trans' h5 (fun i hi => .inr (hb i (by simpa using hi))), by simp [h.len], ?_, ?_, by simpa using hr, by simp, ?_⟩
  · rw [List.nodup_append]
    refine ⟨h.nodup, by simp, fun a hm b hb => ?_⟩
    have := (h.lie a hm).2
    simp only [List.mem_cons, List.not_mem_nil, or_false] at hb
    omega
  · intro q hq
    rcases List.mem_append.1 hq with hq | hq
    · have := h.lie q hq; omega
    · simp only [List.mem_cons, List.not_mem_nil, or_false] at hq; omega
  · intro j q d hq hd
    by_cases hj : j < qs.length
    · rw [List.getElem?_append_left hj] at hq
      rw [List.getElem?_append_left (by rw [← h.len]; exact hj)] at hd
      obtain ⟨pp, b0, b1, b2, hF', r⟩ := h.fresh j q d hq hd
      exact ⟨pp, b0, b1, b2, fresh_grown ((hF'.ch hc (by simp)).ch ha (by simp)) hrow4 hg, r⟩
    · rw [List.getElem?_append_right (by omega)] at hq
      rw [List.getElem?_append_right (by rw [← h.len]; omega)] at hd
      have hj0 : j - qs.length = 0 := by
        have := (List.getElem?_eq_some_iff.1 hq).1
        simp at this; omega
      have hj1 : j - ds.length = 0 := by rw [← h.len]; exact hj0
      rw [hj0] at hq
      rw [hj1] at hd
      cases hq; cases hd
      exact ⟨_, _, _, _, fresh_grown (hF.ch ha (by simp)) hrow4 hg, by omega, by omega, by omega, by omega⟩

theorem take_min (l : List Int) : l.take (min l.length 10) = l.take 10 := by
  rcases Nat.le_total l.length 10 with h | h
  · rw [Nat.min_eq_left h, List.take_of_length_le (Nat.le_refl _), List.take_of_length_le h]
  · rw [Nat.min_eq_right h]

theorem MInv.fr_lt {fr : Nat → Prop} {w : World} {pc bw pm : Nat} {x st : Int} {ts : List Th} (h : MInv fr w pc bw pm x st ts) {z : Nat} (hz : fr z) : z < w.heap.size := by
  obtain ⟨κ, bs, tv, h⟩ := h
  exact (h.kfr z hz).2

set_option maxRecDepth 100000 in
/-- The thread that holds them. -/
theorem Pend.add {fr : Nat → Prop} {B wr : World} {pc bw pm : Nat} {x st : Int} {ts : List Th} {ds : List Int} {qs : List Nat} {own : Value} (h : Pend B pc ds qs own wr) (hM : MInv fr B pc bw pm x st ts) (hts : ts.length < 6) (hfew : ds.length ≤ 10) :
    Calls Try.prog 13 #[.pointer (some ⟨pm, 0, none⟩), own] wr fun e w' => e = .returned (.int .i64 ts.length) ∧ MInv fr w' pc bw pm x st (ts ++ [⟨ds, []⟩]) ∧ Kp fr B w' := by
  cases ds with
  | nil =>
    rw [h.nil0 rfl]
    refine ((hM.ch0 h.ch).add_nil hts).mono ?_
    rintro e w' ⟨rfl, h1, h2⟩
    exact ⟨rfl, h1, (Kp.ofCh h.ch (fun z hz => ⟨hM.fr_lt hz, by simp⟩)).trans h2⟩
  | cons d ds =>
    have hr := h.row
    obtain ⟨g, c, e⟩ := row_some hr (by simp)
    rw [e] at hr
    rw [e]
    exact hM.add_some h.ch hts h.len hfew (by rw [h.len]; simp) h.nodup h.fresh (fun q hq => (h.lie q hq).1) g (d :: ds).length c h.len (fun j q hj => row_cell hr (by rw [List.getElem?_map, hj]; rfl)) (hr.lt g rfl).2

theorem num_le (rows : Nat → List Int) (k : Nat) : num (start rows k) ≤ 10 * k := by
  induction k with
  | zero => exact Nat.le_refl _
  | succ k ih =>
    rw [start_succ]
    unfold num at *
    simp only [List.map_append, List.sum_append, List.map_cons, List.map_nil, List.sum_cons, List.sum_nil, List.length_take]
    omega

/-- Within a thread's tasks: j of them are made since B. -/
def Part (B : World) (pc : Nat) (rows : Nat → List Int) (k j : Nat) (own tot st : Value) (wr : World) : Prop :=
  tot = .int .u64 ((dtot (start rows k) + ((rows k).take j).sum) % 18446744073709551616) ∧ st = .int .i64 ((num (start rows k) : Nat) + j : Int) ∧ ∃ qs : List Nat, Pend B pc ((rows k).take j) qs own wr

theorem part_tot (rows : Nat → List Int) (k j : Nat) (z : Int) (hz : (rows k)[j]? = some z) : IntKind.u64.wrap ((dtot (start rows k) + ((rows k).take j).sum) % 18446744073709551616 + z) = (dtot (start rows k) + ((rows k).take (j + 1)).sum) % 18446744073709551616 := by
  rw [u64_add, take_snoc _ _ _ hz, List.sum_append]
  simp only [List.sum_cons, List.sum_nil, Int.add_zero]
  rw [Int.add_assoc]

end Go.Proofs.Ytejedbknpjffkaa
