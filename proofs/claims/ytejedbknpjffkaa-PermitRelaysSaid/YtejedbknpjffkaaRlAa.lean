/- THE RELAY: a worker's birth; where Relay's things lie is well laid out; what the starter knows; what it may list. (Steps printed by rlwalk.py.) -/
import Derived.Test.YtejedbknpjffkaaRlR
namespace Go.Proofs.Ytejedbknpjffkaa.Rl
open Go Go.Conc Go.Conc.Lib Go.RowKit Go.ConcR.Gen
open Go.ConcN (WgLive ShN)

section
variable {N n k m0 t j B : Nat} {Sh : Loc → Prop} {w W0 : World}

def call60 (N n t : Nat) : Deferred := { target := .fn (.func 60) #[.pointer (some ⟨N + 6 + n, 0, none⟩), .pointer (some ⟨N + 1, 0, none⟩), .pointer (some ⟨N + 4 + n, 0, none⟩), .pointer (some ⟨N + 7 + n + t, 0, none⟩), .pointer (some ⟨N + 5 + n, 0, none⟩), .pointer (some ⟨N, 0, none⟩)], args := #[] }

theorem born_step (w : World) : stepG Try.prog false (born Try.prog (call60 N n t)) w =
    .go (G (b60.at ⟨#[.pointer (some ⟨N + 6 + n, 0, none⟩), .pointer (some ⟨N + 1, 0, none⟩), .pointer (some ⟨N + 4 + n, 0, none⟩), .pointer (some ⟨N + 7 + n + t, 0, none⟩), .pointer (some ⟨N + 5 + n, 0, none⟩), .pointer (some ⟨N, 0, none⟩), undef, undef, undef, undef, undef, undef, undef, undef, undef, undef, undef, undef, undef, undef, undef], []⟩ [.code body60]) [bot]) w #[] := by
  simp [born, call60, stepG, unwind, callDeferred, invoke, callFunc, Try.func60, Try.f60, seen, GStep.after, G, Frame.enter, Frame.at, b60, baseD, bot, body60]

set_option maxRecDepth 100000 in
set_option maxHeartbeats 1000000 in
/-- A WORKER, from its birth on. -/
theorem birth (hB : N + 7 + n + n ≤ B) (ht : t < n) (hn : n < 2147483648) (hk : k < 9223372036854775807) (hx2 : n * k < 9223372036854775807) (hF : CK N n k t w) :
    Cont (lay N n k m0 Sh B) t k (born Try.prog (call60 N n t)) w := by
  have hwk := work (m0 := m0) (Sh := Sh) hB ht hn hk hx2 k 0 (by omega) undef undef undef undef undef undef undef undef undef undef undef undef undef w hF
  refine cont_back (c := 12) (fun {Stop z} h => ?_) hwk
  have T : Terms (RWk (lay N n k m0 Sh B) t) (DWk (lay N n k m0 Sh B) t) := tw
  have hrl : ∀ a b, CK N n k t a → RWk (lay N n k m0 Sh B) t a b → CK N n k t b := fun _ _ h r => h.rely r
  refine gw_ctl T rfl (fun _ => born_step _) ?_
  unfold head60 at h
  simp only [L60, body60, Try.f60, Option.getD_some] at h ⊢
  refine gw_ctl T rfl (fun _ => stepG_seq) ?_
  refine gw_ctl T rfl (fun _ => stepG_region) ?_
  simp only [List.size_toArray, List.length_cons, List.length_nil, Nat.reduceAdd, Nat.zero_add, List.range, List.range.loop]
  refine gw_ctl T rfl (fun _ => stepG_defer rfl rfl (by k_ne) rfl) ?_
  walk_nrm
  refine gw_ctl T rfl (fun _ => stepG_region_end) ?_
  refine gw_ctl T rfl (fun _ => stepG_seq) ?_
  refine gw_ctl T rfl (fun _ => stepG_region) ?_
  simp only [List.size_toArray, List.length_cons, List.length_nil, Nat.reduceAdd, Nat.zero_add, List.range, List.range.loop]
  refine gw_ld T hrl hF (.int .i64 k) rfl rfl (by k_ne) (fun w hF => by have hc := hF.rnd; go_simp) (fun w hF => (fun h => dr1 (a := ⟨N + 1, 0, none⟩) hB ht (by simp [lay]) h) (fun e he => by have hc := hF.rnd; have hm := mem_listed he; simp [go_sem, hc] at hm; exact hm)) ?_
  walk_nrm
  refine gw_val T (.int .i64 0) rfl rfl (by k_ne) (fun _ => by go_simp) (fun _ => by simp [go_sem]) ?_
  walk_nrm
  refine gw_ctl T rfl (fun _ => stepG_region_end) ?_
  refine gw_ctl T rfl (fun _ => stepG_block) ?_
  refine gw_ctl T rfl (fun _ => stepG_loop) ?_
  exact h

theorem geo (hm : 0 < m0) (h1 : 1 ≤ n) (hn : n < 2147483648) (hx2 : n * k < 9223372036854775807) (hB : N + 7 + n + n ≤ B) (hSh : ∀ a : Addr, N ≤ a.block → ¬ Sh (.cell a)) : Geo (lay N n k m0 Sh B) where
  m0 := hm
  n1 := h1
  n2 := hn
  k2 := hx2
  hWg := by simp only [lay]; omega
  hSm := by simp only [lay]; omega
  hch := fun t ht => by simp only [lay] at ht ⊢; omega
  hWS := by simp only [lay]; omega
  hcW := fun t ht => by simp only [lay] at ht ⊢; omega
  hcS := fun t ht => by simp only [lay] at ht ⊢; omega
  inj := fun t t' _ _ h => by simp only [lay] at h; omega
  kb := fun t b ht hb => by
    simp only [lay] at ht hb ⊢
    exact ⟨by omega, by omega, by omega, fun t' ht' => by omega⟩
  shS := hSh _ (by simp only [lay, Lay.sumA]; omega)
  shK := fun t l ⟨a, e, ha⟩ => by
    subst e
    exact hSh a (by simp only [lay] at ha; omega)
  kbS := fun t b hb => by simp only [lay] at hb ⊢; omega
  hB := by simp only [lay]; omega

/-- What the starter knows beside the group, j workers' own numbers being laid. -/
structure MF (W0 : World) (N n k j s : Nat) (w : World) : Prop where
  thr : w.cell? ⟨N, 0, none⟩ = some (.int .i64 n)
  rnd : w.cell? ⟨N + 1, 0, none⟩ = some (.int .i64 k)
  row : ∀ i, i < n → w.cell? ⟨N + 2, i, none⟩ = some (.chan (some (N + 4 + i)))
  str : w.cell? ⟨N + 3, 0, none⟩ = some (.slice (some ⟨N + 2, 0, none⟩) n n)
  pb : w.cell? ⟨N + 4 + n, 0, none⟩ = some (.pointer (some ⟨N + 3, 0, none⟩))
  tb : ∀ t, t < j → w.cell? ⟨N + 7 + n + t, 0, none⟩ = some (.int .i64 t)
  size : w.heap.size = N + 7 + n + s
  bel : Below N W0 w

theorem MF.ck {w : World} {s : Nat} (h : MF W0 N n k j s w) (ht : t < j) (hl : WgLive 127 (N + 6 + n) w) : CK N n k t w := ⟨h.thr, h.rnd, h.row, h.str, h.pb, h.tb t ht, hl⟩
theorem MF.rely {w w₁ : World} {s : Nat} (h : MF W0 N n k j s w) (r : RM (lay N n k m0 Sh B) w w₁) : MF W0 N n k j s w₁ := by
  have hb : ∀ a : Addr, ¬ Var (lay N n k m0 Sh B) a.block → w₁.cell? a = w.cell? a := fun a ha => cell_same (r.block _ ha)
  have hv : ∀ b, Var (lay N n k m0 Sh B) b → b = N + 6 + n ∨ b = N + 5 + n ∨ (N + 4 ≤ b ∧ b < N + 4 + n) := by
    rintro b (e | e | ⟨t, ht, e⟩)
    · exact .inl e
    · exact .inr (.inl e)
    · simp only [lay] at ht e
      exact .inr (.inr (by omega))
  have nv' : ∀ b, b < N → ¬ Var (lay N n k m0 Sh B) b := fun b hb' h' => by have := hv b h'; omega
  have nv : ∀ b, (b = N ∨ b = N + 1 ∨ b = N + 2 ∨ b = N + 3 ∨ b = N + 4 + n ∨ N + 7 + n ≤ b) → ¬ Var (lay N n k m0 Sh B) b := fun b hb' h' => by have := hv b h'; omega
  refine ⟨?_, ?_, fun i hi => ?_, ?_, ?_, fun t ht => ?_, r.size.trans h.size, h.bel.trans ⟨r.os, r.tape, r.output, Nat.le_of_eq r.size.symm, fun b hb => r.block b (nv' b hb)⟩⟩
  · rw [hb _ (nv _ (by simp))]; exact h.thr
  · rw [hb _ (nv _ (by simp))]; exact h.rnd
  · rw [hb _ (nv _ (by simp))]; exact h.row i hi
  · rw [hb _ (nv _ (by simp))]; exact h.str
  · rw [hb _ (nv _ (by simp))]; exact h.pb
  · rw [hb _ (nv _ (by simp only []; omega))]; exact h.tb t ht

/-- The next worker's own variable is laid .. -/
theorem MF.alloc {w : World} (h : MF W0 N n k j j w) (hj : j ≤ n) (o : Obj) : MF W0 N n k j (j + 1) (w.alloc o) := by
  have hs := h.size
  have hb : ∀ a : Addr, a.block < N + 7 + n + j → (w.alloc o).cell? a = w.cell? a := fun a ha => cell_same (Below.heap_alloc _ _ _ (by omega))
  refine ⟨?_, ?_, fun i hi => ?_, ?_, ?_, fun t ht => ?_, by rw [World.size_alloc, hs]; omega, h.bel.alloc (by omega) o⟩
  · rw [hb _ (by simp only []; omega)]; exact h.thr
  · rw [hb _ (by simp only []; omega)]; exact h.rnd
  · rw [hb _ (by simp only []; omega)]; exact h.row i hi
  · rw [hb _ (by simp only []; omega)]; exact h.str
  · rw [hb _ (by simp only []; omega)]; exact h.pb
  · rw [hb _ (by simp only []; omega)]; exact h.tb t ht
/-- .. and filled. -/
theorem MF.fill {w : World} (h : MF W0 N n k j (j + 1) w) {v : Value} (hv : w.cell? ⟨N + 7 + n + j, 0, none⟩ = some v) : MF W0 N n k (j + 1) (j + 1) (w.setCell ⟨N + 7 + n + j, 0, none⟩ (.int .i64 j)) := by
  have hb : ∀ a : Addr, a.block ≠ N + 7 + n + j → (w.setCell ⟨N + 7 + n + j, 0, none⟩ (.int .i64 j)).cell? a = w.cell? a := fun a ha => cell_same (Below.heap_setCell _ _ _ _ ha)
  refine ⟨?_, ?_, fun i hi => ?_, ?_, ?_, fun t ht => ?_, (aside_setCell _ _ _).size.trans h.size, h.bel.setCell (by simp only []; omega) _⟩
  · rw [hb _ (by simp only []; omega)]; exact h.thr
  · rw [hb _ (by simp only []; omega)]; exact h.rnd
  · rw [hb _ (by simp only []; omega)]; exact h.row i hi
  · rw [hb _ (by simp only []; omega)]; exact h.str
  · rw [hb _ (by simp only []; omega)]; exact h.pb
  · by_cases e : t = j
    · subst e
      exact World.cell?_setCell_same _ _ _ hv
    · rw [hb _ (by simp only []; omega)]; exact h.tb t (by omega)

theorem tm_ {J : Nat} : Terms (RM (lay N n k m0 Sh B)) (DM (lay N n k m0 Sh B) J) := ⟨fun _ _ _ h h' => h.trans h', fun _ => ⟨fun _ _ => rfl, by simp⟩⟩

/-- A read of one of Relay's boxes. -/
theorem evm {J : Nat} (hB : N + 7 + n + n ≤ B) (hSh : ∀ a : Addr, N ≤ a.block → ¬ Sh (.cell a)) {a : Addr} (ha : N ≤ a.block ∧ a.block < N + 7 + n + n ∧ a.block ≠ N + 6 + n ∧ a.block ≠ N + 5 + n) {wr : Bool} (hw : wr = true → ∀ q, q < J → ¬ (lay N n k m0 Sh B).still q (.cell a)) :
    EvM (lay N n k m0 Sh B) J ⟨.cell a, wr, false⟩ := by
  refine ⟨fun y hy => ?_, by simp, by simp, by simp, ?_⟩
  · simp only [MemAct.ofEvent, MemAct.touch?, Option.some.injEq] at hy
    subst hy
    refine ⟨.inr ⟨?_, ?_, fun h => absurd h (hSh a ha.1)⟩, hw⟩
    · rintro ⟨a', e, hb⟩
      cases e
      exact ha.2.2.1 hb
    · simp only [lay, Lay.sumA, ne_eq, Loc.cell.injEq]
      rintro rfl
      exact ha.2.2.2 rfl
  · show a.block < B
    omega
theorem dmr {J : Nat} (hB : N + 7 + n + n ≤ B) (hSh : ∀ a : Addr, N ≤ a.block → ¬ Sh (.cell a)) {w : World} {es : Array Event} (h : ∀ e ∈ es, ∃ a : Addr, (N ≤ a.block ∧ a.block < N + 7 + n + n ∧ a.block ≠ N + 6 + n ∧ a.block ≠ N + 5 + n) ∧ e = ⟨.cell a, false, false⟩) : DM (lay N n k m0 Sh B) J w w es :=
  ⟨fun _ _ => rfl, fun e he => by obtain ⟨a, ha, rfl⟩ := h e he; exact evm hB hSh ha (by simp)⟩
theorem dm1 {J b o : Nat} (hB : N + 7 + n + n ≤ B) (hSh : ∀ a : Addr, N ≤ a.block → ¬ Sh (.cell a)) (hb : N ≤ b ∧ b < N + 7 + n + n ∧ b ≠ N + 6 + n ∧ b ≠ N + 5 + n) {w : World} {es : Array Event} (h : ∀ e ∈ es, e = ⟨.cell ⟨b, o, none⟩, false, false⟩) : DM (lay N n k m0 Sh B) J w w es :=
  dmr hB hSh fun e he => ⟨⟨b, o, none⟩, hb, h e he⟩
end
end Go.Proofs.Ytejedbknpjffkaa.Rl
