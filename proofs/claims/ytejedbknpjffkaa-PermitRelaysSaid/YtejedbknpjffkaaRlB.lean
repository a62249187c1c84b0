/- THE RELAY: a worker's walk (Relay$1), in company. (Steps printed by rlb.py and rlwalk.py.) -/
import Derived.Test.YtejedbknpjffkaaRlP
import Derived.Conc.CompanyDraw
import Derived.Conc.Own2
namespace Go.Proofs.Ytejedbknpjffkaa.Rl
open Go Go.Conc Go.Conc.Lib Go.RowKit Go.ConcR.Gen
open Go.ConcN (WgLive)

/-- Where Relay's things lie: N: the heap's size at its entry. Boxes of threads N, rounds N + 1; the channels' row N + 2, Permits N + 3, channels N + 4 .., p, sum, the group, then each worker's own number. -/
noncomputable def lay (N n k m0 : Nat) (Sh : Loc → Prop) (B : Nat) : Lay where
  P := Try.prog
  ty := 127
  Wg := N + 6 + n
  Sm := N + 5 + n
  n := n
  k := k
  m0 := m0
  ch i := N + 4 + i
  Kb t b := b = N ∨ b = N + 1 ∨ b = N + 2 ∨ b = N + 3 ∨ b = N + 4 + n ∨ b = N + 7 + n + t
  H0 := N + 7 + n
  Shun := Sh
  B := B

/-- What a worker knows. -/
structure CK (N n k t : Nat) (w : World) : Prop where
  thr : w.cell? ⟨N, 0, none⟩ = some (.int .i64 n)
  rnd : w.cell? ⟨N + 1, 0, none⟩ = some (.int .i64 k)
  row : ∀ i, i < n → w.cell? ⟨N + 2, i, none⟩ = some (.chan (some (N + 4 + i)))
  str : w.cell? ⟨N + 3, 0, none⟩ = some (.slice (some ⟨N + 2, 0, none⟩) n n)
  pb : w.cell? ⟨N + 4 + n, 0, none⟩ = some (.pointer (some ⟨N + 3, 0, none⟩))
  tb : w.cell? ⟨N + 7 + n + t, 0, none⟩ = some (.int .i64 t)
  live : WgLive 127 (N + 6 + n) w

/-- .. and of the handed cell, while it holds. -/
structure CKH (N n k t x : Nat) (w : World) : Prop extends CK N n k t w where
  sm : ∃ T, w.heap[N + 5 + n]? = some (.cells #[.int .i64 (x : Int)] T)

theorem cell_same {w w₁ : World} {a : Addr} (h : w₁.heap[a.block]? = w.heap[a.block]?) : w₁.cell? a = w.cell? a := World.cell?_of_block h

section
variable {N n k m0 t x B : Nat} {Sh : Loc → Prop}

theorem CK.rely {w w₁ : World} (h : CK N n k t w) (r : RWk (lay N n k m0 Sh B) t w w₁) : CK N n k t w₁ := by
  have hb : ∀ a : Addr, (lay N n k m0 Sh B).Kb t a.block → w₁.cell? a = w.cell? a := fun a ha => cell_same (r.kb _ ha)
  refine ⟨?_, ?_, fun i hi => ?_, ?_, ?_, ?_, r.live h.live⟩
  · rw [hb _ (by simp [lay])]; exact h.thr
  · rw [hb _ (by simp [lay])]; exact h.rnd
  · rw [hb _ (by simp [lay])]; exact h.row i hi
  · rw [hb _ (by simp [lay])]; exact h.str
  · rw [hb _ (by simp [lay])]; exact h.pb
  · rw [hb _ (by simp [lay])]; exact h.tb
theorem CKH.rely {w w₁ : World} (h : CKH N n k t x w) (r : RH (lay N n k m0 Sh B) t w w₁) : CKH N n k t x w₁ :=
  ⟨h.toCK.rely r.toRWk, by obtain ⟨T, hT⟩ := h.sm; exact ⟨T, r.sm.trans hT⟩⟩

theorem tw : Terms (RWk (lay N n k m0 Sh B) t) (DWk (lay N n k m0 Sh B) t) := ⟨fun _ _ _ h h' => h.trans h', fun _ => ⟨rfl, by simp⟩⟩
theorem th : Terms (RH (lay N n k m0 Sh B) t) (DHk (lay N n k m0 Sh B) t) := ⟨fun _ _ _ h h' => h.trans h', fun w => ⟨.refl _ w, by simp⟩⟩

theorem evr (hB : N + 7 + n + n ≤ B) (ht : t < n) {a : Addr} (ha : (lay N n k m0 Sh B).Kb t a.block) : EvR (lay N n k m0 Sh B) t ⟨.cell a, false, false⟩ := by
  refine ⟨fun y hy => ?_, by simp, by simp, by simp, ?_⟩
  · simp only [MemAct.ofEvent, MemAct.touch?, Option.some.injEq] at hy
    subst hy
    exact ⟨rfl, rfl, a, rfl, ha⟩
  · show a.block < B
    simp only [lay] at ha
    omega
theorem evh (hB : N + 7 + n + n ≤ B) (ht : t < n) {a : Addr} (ha : (lay N n k m0 Sh B).Kb t a.block) : EvH (lay N n k m0 Sh B) t ⟨.cell a, false, false⟩ := by
  obtain ⟨h1, h2, h3, h4, h5⟩ := evr (k := k) (m0 := m0) (Sh := Sh) hB ht ha
  exact ⟨fun y hy => ⟨(h1 y hy).1, .inr (h1 y hy).2⟩, h2, h3, h4, h5⟩
theorem evs (hB : N + 7 + n + n ≤ B) (wr : Bool) : EvH (lay N n k m0 Sh B) t ⟨.cell ⟨N + 5 + n, 0, none⟩, wr, false⟩ := by
  refine ⟨fun y hy => ?_, by simp, by simp, by simp, ?_⟩
  · simp only [MemAct.ofEvent, MemAct.touch?, Option.some.injEq] at hy
    subst hy
    exact ⟨rfl, .inl rfl⟩
  · show N + 5 + n < B
    omega
theorem dr (hB : N + 7 + n + n ≤ B) (ht : t < n) {w : World} {es : Array Event} (h : ∀ e ∈ es, ∃ a : Addr, (lay N n k m0 Sh B).Kb t a.block ∧ e = ⟨.cell a, false, false⟩) : DWk (lay N n k m0 Sh B) t w w es :=
  ⟨rfl, fun e he => by obtain ⟨a, ha, rfl⟩ := h e he; exact evr hB ht ha⟩
theorem dh (hB : N + 7 + n + n ≤ B) (ht : t < n) {w : World} {es : Array Event} (h : ∀ e ∈ es, ∃ a : Addr, (lay N n k m0 Sh B).Kb t a.block ∧ e = ⟨.cell a, false, false⟩) : DHk (lay N n k m0 Sh B) t w w es :=
  ⟨.refl _ w, fun e he => by obtain ⟨a, ha, rfl⟩ := h e he; exact evh hB ht ha⟩
theorem dh1 (hB : N + 7 + n + n ≤ B) (ht : t < n) {w : World} {es : Array Event} {a : Addr} (ha : (lay N n k m0 Sh B).Kb t a.block) (h : ∀ e ∈ es, e = ⟨.cell a, false, false⟩) : DHk (lay N n k m0 Sh B) t w w es := dh hB ht fun e he => ⟨a, ha, h e he⟩
theorem dr1 (hB : N + 7 + n + n ≤ B) (ht : t < n) {w : World} {es : Array Event} {a : Addr} (ha : (lay N n k m0 Sh B).Kb t a.block) (h : ∀ e ∈ es, e = ⟨.cell a, false, false⟩) : DWk (lay N n k m0 Sh B) t w w es := dr hB ht fun e he => ⟨a, ha, h e he⟩
theorem dhs (hB : N + 7 + n + n ≤ B) {w : World} {es : Array Event} (h : ∀ e ∈ es, e = ⟨.cell ⟨N + 5 + n, 0, none⟩, false, false⟩) : DHk (lay N n k m0 Sh B) t w w es := ⟨.refl _ w, fun e he => by rw [h e he]; exact evs hB false⟩
end

/-! ### a region that asks the tape, taken apart -/
theorem lin_step {ops : Array Oper} {listed : Array Bool} {rs : List Nat} (h : Region.ready .any ops listed = rs) {fuel q i : Nat} (hi : rs[q % rs.length]? = some i) :
    Region.linearise.go .any ops (fuel + 1) q listed [] = i :: Region.linearise.go .any ops fuel (q / rs.length) (listed.setIfInBounds i true) [] := by
  simp only [Region.linearise.go]
  change (match (Region.ready .any ops listed)[q % (Region.ready .any ops listed).length]? with
      | some i => Region.linearise.go .any ops fuel (q / (Region.ready .any ops listed).length) (listed.setIfInBounds i true) [i]
      | none => [].reverse) = _
  rw [h, hi]
  simp only []
  rw [linearise_go_acc]
  rfl

theorem any_step {ops : Array Oper} {listed : Array Bool} {rs : List Nat} (h : Region.ready .any ops listed = rs) (hne : rs ≠ []) {X : List Nat → Prop} {fuel : Nat}
    (hX : ∀ i ∈ rs, ∀ q, X (i :: Region.linearise.go .any ops fuel q (listed.setIfInBounds i true) [])) (q : Nat) : X (Region.linearise.go .any ops (fuel + 1) q listed []) := by
  have hl : q % rs.length < rs.length := Nat.mod_lt _ (List.length_pos_iff.2 hne)
  rw [lin_step h (List.getElem?_eq_getElem hl)]
  exact hX _ (List.getElem_mem hl) _

theorem mixed : Try.prog.follows .mixedOrders = true := by kernel_rfl

/-! ### the worker's text -/
noncomputable def body60 : Code := Try.f60.body.getD .skip
noncomputable def L60 : Code := match body60 with | .seq _ (.seq _ (.block _ (.loop c))) => c | _ => .skip
theorem nm60 : (Try.f60.name == "runtime.NumGoroutine") = false := by kernel_rfl
theorem nm61 : (Try.f61.name == "runtime.NumGoroutine") = false := by kernel_rfl
def b60 : Frame := baseD 60
noncomputable def bot : Frame := { (default : Frame) with fn := Try.prog.funcs.size, defers := [], mode := .panicking [goexitEntry] }

/-- The draw. -/
theorem gw_draw {main : Bool} {R : World → World → Prop} {D : World → World → Array Event → Prop} {Stop : Goroutine → World → Prop} {n : Nat} {w : World} {F : World → Prop} {b : Frame} {a : Act} {k : List Item} {cs : List Frame} {ops : Array Oper} {id : Nat}
    (hrl : ∀ a b, F a → R a b → F b) (hF : F w) (hd : ∀ w, D w { w with drawn := w.drawn + 1 } #[]) (hdr : ∀ w : World, F w → F { w with drawn := w.drawn + 1 })
    (hg : ∀ w t, F w → Goes Try.prog main R D Stop n (G (b.at a (.inRegion ops (Region.linearise .any ops t) :: k)) cs) w) :
    Goes Try.prog main R D Stop (n + 1) (G (b.at a (.code (.region id ops true) :: k)) cs) w :=
  Goes.step rfl fun w₁ h₁ => by
    rw [stepG_region_draw]
    simp only [Region.schedule, mixed, Bool.true_or, if_true]
    exact ⟨hd _, hg _ _ (hdr _ (hrl _ _ hF h₁))⟩

set_option maxRecDepth 100000 in
theorem tail60 (T : Array Value) : QuitsD Try.prog 2 0 (G { b60.at ⟨T, []⟩ [] with mode := .returning } [bot]) := by
  refine QuitsD.ctl (g' := G bot []) rfl (fun w => ?_) ?_
  · simp [G, stepG, unwind, doReturn, results, Frame.at, b60, baseD, bot, Try.func60, Try.f60, seen, GStep.after, goexitEntry]
  refine QuitsD.ctl (g' := { G bot [] with status := .finished }) rfl (fun w => ?_) ⟨rfl, rfl⟩
  simp [G, stepG, unwind, bot, goexitEntry, Frame.catches]
  rfl

section
variable {N n k m0 t x B r i : Nat} {Sh : Loc → Prop}

theorem cont_back {g g' : Goroutine} {w : World} {c : Nat} (h : ∀ {Stop : Goroutine → World → Prop} {z : Nat}, Goes Try.prog false (RWk (lay N n k m0 Sh B) t) (DWk (lay N n k m0 Sh B) t) Stop z g' w → Goes Try.prog false (RWk (lay N n k m0 Sh B) t) (DWk (lay N n k m0 Sh B) t) Stop (z + c) g w) :
    Cont (lay N n k m0 Sh B) t r g' w → Cont (lay N n k m0 Sh B) t r g w := by
  cases r with
  | zero => exact fun ⟨m, hm⟩ => ⟨_, h hm⟩
  | succ r => exact fun ⟨m, hm⟩ => ⟨_, h hm⟩

/-- At the loop's head, i rounds done. -/
noncomputable def head60 (N n k t i : Nat) (j8 j9 j10 j11 j12 j13 j14 j15 j16 j17 j18 j19 j20 : Value) : Goroutine :=
  G (b60.at ⟨#[.pointer (some ⟨N + 6 + n, 0, none⟩), .pointer (some ⟨N + 1, 0, none⟩), .pointer (some ⟨N + 4 + n, 0, none⟩), .pointer (some ⟨N + 7 + n + t, 0, none⟩), .pointer (some ⟨N + 5 + n, 0, none⟩), .pointer (some ⟨N, 0, none⟩), .int .i64 k, .int .i64 i, j8, j9, j10, j11, j12, j13, j14, j15, j16, j17, j18, j19, j20], [dcall 61 #[.pointer (some ⟨N + 6 + n, 0, none⟩)]]⟩ [.code L60, .inLoop L60, .inBlock 0]) [bot]

set_option maxRecDepth 100000 in
set_option maxHeartbeats 1000000 in
/-- The rounds are over: Done. -/
theorem work_end (w : World) (hF : CK N n k t w) (j8 j9 j10 j11 j12 j13 j14 j15 j16 j17 j18 j19 j20 : Value) :
    Cont (lay N n k m0 Sh B) t 0 (head60 N n k t k j8 j9 j10 j11 j12 j13 j14 j15 j16 j17 j18 j19 j20) w := by
  have T : Terms (RWk (lay N n k m0 Sh B) t) (DWk (lay N n k m0 Sh B) t) := tw
  have q : decide ((k : Int) < (k : Int)) = false := decide_eq_false (by omega)
  refine ⟨23 + 9, ?_⟩
  unfold head60
  simp only [L60, body60, Try.f60, Option.getD_some]
  refine gw_ctl T rfl (fun _ => stepG_seq) ?_
  refine gw_ctl T rfl (fun _ => stepG_region) ?_
  simp only [List.size_toArray, List.length_cons, List.length_nil, Nat.reduceAdd, Nat.zero_add, List.range, List.range.loop]
  refine gw_val T (.bool false) rfl rfl (by k_ne) (fun _ => by go_simp) (fun _ => by simp [go_sem, *]) ?_
  walk_nrm
  refine gw_ctl T rfl (fun _ => stepG_region_end) ?_
  refine gw_ctl T rfl (fun _ => stepG_seq) ?_
  refine gw_ctl T rfl (fun _ => stepG_cond (t := false) rfl) ?_
  simp only [if_false, Bool.false_eq_true, ↓reduceIte]
  refine gw_ctl T rfl (fun _ => stepG_exit rfl) ?_
  refine gw_ctl T rfl (fun _ => stepG_end) ?_
  refine gw_ctl T rfl (fun _ => stepG_unwind_enter (c := body_done lk) rfl wgLib.f_done (nm_done lk) rfl) ?_
  walk_nrmf doneFn
  exact goes_weaken (fun _ _ h => h.live) (fun w w' es ⟨h1, h2⟩ => ⟨h1, by subst h2; simp⟩) (fun _ _ h => h) (doneW (Y := lay N n k m0 Sh B) rfl wgLib rfl rfl (tail60 _) w hF.live)

noncomputable def blk1 : Code := match L60 with | .seq _ (.seq _ (.seq (.block _ c) _)) => c | _ => .skip
noncomputable def R6 : Code := match L60 with | .seq _ (.seq _ (.seq _ c)) => c | _ => .skip
noncomputable def O5 : Array Oper := match blk1 with | .seq _ (.seq _ (.region _ o _)) => o | _ => #[]

set_option maxRecDepth 100000 in
/-- Behind the Give: to the loop's head. -/
theorem work_back (j8 j9 j10 j11 j12 j13 j14 j15 j16 j17 j18 j19 j20 : Value) (w : World) (hi : i < k) (hk : k < 9223372036854775807) {Stop : Goroutine → World → Prop} {z : Nat}
    (h : Goes Try.prog false (RWk (lay N n k m0 Sh B) t) (DWk (lay N n k m0 Sh B) t) Stop z (head60 N n k t (i + 1) j8 j9 j10 j11 j12 j13 j14 j15 j16 j17 j18 j19 (.int .i64 (i + 1 : Nat))) w) :
    Goes Try.prog false (RWk (lay N n k m0 Sh B) t) (DWk (lay N n k m0 Sh B) t) Stop (z + 7) (G (b60.at ⟨#[.pointer (some ⟨N + 6 + n, 0, none⟩), .pointer (some ⟨N + 1, 0, none⟩), .pointer (some ⟨N + 4 + n, 0, none⟩), .pointer (some ⟨N + 7 + n + t, 0, none⟩), .pointer (some ⟨N + 5 + n, 0, none⟩), .pointer (some ⟨N, 0, none⟩), .int .i64 k, .int .i64 i, j8, j9, j10, j11, j12, j13, j14, j15, j16, j17, j18, j19, j20], [dcall 61 #[.pointer (some ⟨N + 6 + n, 0, none⟩)]]⟩ (.inRegion O5 [] :: [.inBlock 1, .code R6, .inLoop L60, .inBlock 0])) [bot]) w := by
  have T : Terms (RWk (lay N n k m0 Sh B) t) (DWk (lay N n k m0 Sh B) t) := tw
  have q : IntKind.i64.wrap ((i : Int) + 1) = (i : Int) + 1 := by rw [IntKind.wrap_i64]; omega
  simp only [R6, L60, body60, Try.f60, Option.getD_some]
  refine gw_ctl T rfl (fun _ => stepG_region_end) ?_
  refine gw_ctl T rfl (fun _ => stepG_inBlock) ?_
  refine gw_ctl T rfl (fun _ => stepG_region) ?_
  simp only [List.size_toArray, List.length_cons, List.length_nil, Nat.reduceAdd, Nat.zero_add, List.range, List.range.loop]
  refine gw_val T (.int .i64 (i + 1 : Nat)) rfl rfl (by k_ne) (fun _ => by go_simp) (fun _ => by simp [go_sem, *]) ?_
  walk_nrm
  refine gw_val T (.int .i64 (i + 1 : Nat)) rfl rfl (by k_ne) (fun _ => by go_simp) (fun _ => by simp [go_sem]) ?_
  walk_nrm
  refine gw_ctl T rfl (fun _ => stepG_region_end) ?_
  refine gw_ctl T rfl (fun _ => stepG_inLoop) ?_
  exact h

section
variable (hB : N + 7 + n + n ≤ B) (ht : t < n) (hn : n < 2147483648) (hi : i < k) (hk : k < 9223372036854775807)
  (IH : ∀ (j8 j9 j10 j11 j12 j13 j14 j15 j16 j17 j18 j19 j20 : Value) (w : World), CK N n k t w → Cont (lay N n k m0 Sh B) t r (head60 N n k t (i + 1) j8 j9 j10 j11 j12 j13 j14 j15 j16 j17 j18 j19 j20) w)
include hB ht hn hi hk IH


set_option maxRecDepth 100000 in
set_option linter.unusedVariables false in
theorem work_give (j8 j9 j10 j11 j12 j13 j14 j15 j16 j17 j18 j19 j20 : Value) (w : World) (hF : CKH N n k t (x + 1) w) : Goes Try.prog false (RH (lay N n k m0 Sh B) t) (DHk (lay N n k m0 Sh B) t) (AtSend (lay N n k m0 Sh B) t x (Cont (lay N n k m0 Sh B) t r)) 76 (G (b60.at ⟨#[.pointer (some ⟨N + 6 + n, 0, none⟩), .pointer (some ⟨N + 1, 0, none⟩), .pointer (some ⟨N + 4 + n, 0, none⟩), .pointer (some ⟨N + 7 + n + t, 0, none⟩), .pointer (some ⟨N + 5 + n, 0, none⟩), .pointer (some ⟨N, 0, none⟩), .int .i64 k, .int .i64 i, j8, j9, j10, j11, j12, j13, .pointer (some ⟨N + 3, 0, none⟩), .int .i64 t, .int .i64 (t + 1 : Nat), .int .i64 n, .int .i64 ((t + 1) % n : Nat), j19, j20], [dcall 61 #[.pointer (some ⟨N + 6 + n, 0, none⟩)]]⟩ (.inRegion O5 [5] :: [.inBlock 1, .code R6, .inLoop L60, .inBlock 0])) [bot]) w := by
  have T : Terms (RH (lay N n k m0 Sh B) t) (DHk (lay N n k m0 Sh B) t) := th
  have hm : (t + 1) % n < n := Nat.mod_lt _ (by omega)
  refine g_give (n := 0) T (F := CKH N n k t (x + 1)) (fun _ _ h r => h.rely r) hF (fun w h => h.str) (fun w h => h.row _ hm)
    (fun w h es he => dh hB ht fun e hm => (he e hm).elim (fun e => ⟨⟨N + 3, 0, none⟩, by simp [lay], e⟩) (fun e => ⟨⟨N + 2, (t + 1) % n, none⟩, by simp [lay], e⟩)) hm rfl rfl (by k_ne) rfl rfl rfl ?_
  intro g w₁ hst hrun hcome hr
  have hF1 := hF.rely hr
  refine ⟨hrun, ?_, g, hst w₁, fun w₂ h₂ => ?_⟩
  · obtain ⟨T, hT⟩ := hF1.sm
    exact ⟨T, by simpa [lay] using hT⟩
  · exact cont_back (c := 7 + 13) (fun h => hcome tw (work_back j8 j9 j10 j11 j12 j13 (.pointer (some ⟨N + 3, 0, none⟩)) (.int .i64 t) (.int .i64 (t + 1 : Nat)) (.int .i64 n) (.int .i64 ((t + 1) % n : Nat)) (.bool true) j20 w₂ hi hk h)) (IH _ _ _ _ _ _ _ _ _ _ _ _ _ w₂ (hF1.toCK.rely h₂))


set_option maxRecDepth 100000 in
set_option maxHeartbeats 4000000 in
/-- The drawn region, whatever the tape says. -/
theorem work_drawn (j8 j9 j10 j11 j12 j13 j14 j15 j16 j17 j18 j19 j20 : Value) (w : World) (hF : CKH N n k t (x + 1) w) (q : Nat) : Goes Try.prog false (RH (lay N n k m0 Sh B) t) (DHk (lay N n k m0 Sh B) t) (AtSend (lay N n k m0 Sh B) t x (Cont (lay N n k m0 Sh B) t r)) 87 (G (b60.at ⟨#[.pointer (some ⟨N + 6 + n, 0, none⟩), .pointer (some ⟨N + 1, 0, none⟩), .pointer (some ⟨N + 4 + n, 0, none⟩), .pointer (some ⟨N + 7 + n + t, 0, none⟩), .pointer (some ⟨N + 5 + n, 0, none⟩), .pointer (some ⟨N, 0, none⟩), .int .i64 k, .int .i64 i, j8, j9, j10, j11, j12, j13, j14, j15, j16, j17, j18, j19, j20], [dcall 61 #[.pointer (some ⟨N + 6 + n, 0, none⟩)]]⟩ (.inRegion O5 (Region.linearise.go .any O5 6 q #[false, false, false, false, false, false] []) :: [.inBlock 1, .code R6, .inLoop L60, .inBlock 0])) [bot]) w := by
  have T : Terms (RH (lay N n k m0 Sh B) t) (DHk (lay N n k m0 Sh B) t) := th
  have hrl : ∀ a b, CKH N n k t (x + 1) a → RH (lay N n k m0 Sh B) t a b → CKH N n k t (x + 1) b := fun _ _ h r => h.rely r
  have q1 : IntKind.i64.wrap ((t : Int) + 1) = (t : Int) + 1 := by rw [IntKind.wrap_i64]; omega
  have q2 : ((t : Int) + 1).tmod n = ((t : Int) + 1) % n := Int.tmod_eq_emod_of_nonneg (by omega)
  have q3 : ¬ n = 0 := by omega
  have hgive := work_give (x := x) (r := r) (m0 := m0) (Sh := Sh) hB ht hn hi hk IH
  have S01234 : ∀ (q : Nat), Goes Try.prog false (RH (lay N n k m0 Sh B) t) (DHk (lay N n k m0 Sh B) t) (AtSend (lay N n k m0 Sh B) t x (Cont (lay N n k m0 Sh B) t r)) (82) (G (b60.at ⟨#[.pointer (some ⟨N + 6 + n, 0, none⟩), .pointer (some ⟨N + 1, 0, none⟩), .pointer (some ⟨N + 4 + n, 0, none⟩), .pointer (some ⟨N + 7 + n + t, 0, none⟩), .pointer (some ⟨N + 5 + n, 0, none⟩), .pointer (some ⟨N, 0, none⟩), .int .i64 k, .int .i64 i, j8, j9, j10, j11, j12, j13, .pointer (some ⟨N + 3, 0, none⟩), .int .i64 t, .int .i64 (t + 1 : Nat), .int .i64 n, .int .i64 ((t + 1) % n : Nat), j19, j20], [dcall 61 #[.pointer (some ⟨N + 6 + n, 0, none⟩)]]⟩ (.inRegion O5 (Region.linearise.go .any O5 1 q #[true, true, true, true, true, false] []) :: [.inBlock 1, .code R6, .inLoop L60, .inBlock 0])) [bot]) w := by
    intro q
    rw [lin_step (rs := [5]) (i := 5) (by kernel_rfl) (by simp [Nat.mod_one])]
    exact goes_mores (hgive j8 j9 j10 j11 j12 j13 j14 j15 j16 j17 j18 j19 j20 w hF) 6
  have S0123 : ∀ (q : Nat), Goes Try.prog false (RH (lay N n k m0 Sh B) t) (DHk (lay N n k m0 Sh B) t) (AtSend (lay N n k m0 Sh B) t x (Cont (lay N n k m0 Sh B) t r)) (83) (G (b60.at ⟨#[.pointer (some ⟨N + 6 + n, 0, none⟩), .pointer (some ⟨N + 1, 0, none⟩), .pointer (some ⟨N + 4 + n, 0, none⟩), .pointer (some ⟨N + 7 + n + t, 0, none⟩), .pointer (some ⟨N + 5 + n, 0, none⟩), .pointer (some ⟨N, 0, none⟩), .int .i64 k, .int .i64 i, j8, j9, j10, j11, j12, j13, .pointer (some ⟨N + 3, 0, none⟩), .int .i64 t, .int .i64 (t + 1 : Nat), .int .i64 n, j18, j19, j20], [dcall 61 #[.pointer (some ⟨N + 6 + n, 0, none⟩)]]⟩ (.inRegion O5 (Region.linearise.go .any O5 2 q #[true, true, true, true, false, false] []) :: [.inBlock 1, .code R6, .inLoop L60, .inBlock 0])) [bot]) w := by
    intro q
    refine any_step (X := fun l => Goes Try.prog false (RH (lay N n k m0 Sh B) t) (DHk (lay N n k m0 Sh B) t) (AtSend (lay N n k m0 Sh B) t x (Cont (lay N n k m0 Sh B) t r)) (83) (G (b60.at ⟨#[.pointer (some ⟨N + 6 + n, 0, none⟩), .pointer (some ⟨N + 1, 0, none⟩), .pointer (some ⟨N + 4 + n, 0, none⟩), .pointer (some ⟨N + 7 + n + t, 0, none⟩), .pointer (some ⟨N + 5 + n, 0, none⟩), .pointer (some ⟨N, 0, none⟩), .int .i64 k, .int .i64 i, j8, j9, j10, j11, j12, j13, .pointer (some ⟨N + 3, 0, none⟩), .int .i64 t, .int .i64 (t + 1 : Nat), .int .i64 n, j18, j19, j20], [dcall 61 #[.pointer (some ⟨N + 6 + n, 0, none⟩)]]⟩ (.inRegion O5 l :: [.inBlock 1, .code R6, .inLoop L60, .inBlock 0])) [bot]) w) (rs := [4]) (by kernel_rfl) (by decide) (fun i hi q => ?_) q
    simp only [List.mem_cons, List.not_mem_nil, or_false] at hi
    subst hi
    · simp only [O5, blk1, L60, body60, Try.f60, Option.getD_some]
      refine gw_val T (.int .i64 ((t + 1) % n : Nat)) rfl rfl (by k_ne) (fun _ => by go_simp) (fun _ => by simp [go_sem, *]) ?_
      walk_nrm
      exact S01234 q
  have S1234 : ∀ (q : Nat), Goes Try.prog false (RH (lay N n k m0 Sh B) t) (DHk (lay N n k m0 Sh B) t) (AtSend (lay N n k m0 Sh B) t x (Cont (lay N n k m0 Sh B) t r)) (83) (G (b60.at ⟨#[.pointer (some ⟨N + 6 + n, 0, none⟩), .pointer (some ⟨N + 1, 0, none⟩), .pointer (some ⟨N + 4 + n, 0, none⟩), .pointer (some ⟨N + 7 + n + t, 0, none⟩), .pointer (some ⟨N + 5 + n, 0, none⟩), .pointer (some ⟨N, 0, none⟩), .int .i64 k, .int .i64 i, j8, j9, j10, j11, j12, j13, j14, .int .i64 t, .int .i64 (t + 1 : Nat), .int .i64 n, .int .i64 ((t + 1) % n : Nat), j19, j20], [dcall 61 #[.pointer (some ⟨N + 6 + n, 0, none⟩)]]⟩ (.inRegion O5 (Region.linearise.go .any O5 2 q #[false, true, true, true, true, false] []) :: [.inBlock 1, .code R6, .inLoop L60, .inBlock 0])) [bot]) w := by
    intro q
    refine any_step (X := fun l => Goes Try.prog false (RH (lay N n k m0 Sh B) t) (DHk (lay N n k m0 Sh B) t) (AtSend (lay N n k m0 Sh B) t x (Cont (lay N n k m0 Sh B) t r)) (83) (G (b60.at ⟨#[.pointer (some ⟨N + 6 + n, 0, none⟩), .pointer (some ⟨N + 1, 0, none⟩), .pointer (some ⟨N + 4 + n, 0, none⟩), .pointer (some ⟨N + 7 + n + t, 0, none⟩), .pointer (some ⟨N + 5 + n, 0, none⟩), .pointer (some ⟨N, 0, none⟩), .int .i64 k, .int .i64 i, j8, j9, j10, j11, j12, j13, j14, .int .i64 t, .int .i64 (t + 1 : Nat), .int .i64 n, .int .i64 ((t + 1) % n : Nat), j19, j20], [dcall 61 #[.pointer (some ⟨N + 6 + n, 0, none⟩)]]⟩ (.inRegion O5 l :: [.inBlock 1, .code R6, .inLoop L60, .inBlock 0])) [bot]) w) (rs := [0]) (by kernel_rfl) (by decide) (fun i hi q => ?_) q
    simp only [List.mem_cons, List.not_mem_nil, or_false] at hi
    subst hi
    · simp only [O5, blk1, L60, body60, Try.f60, Option.getD_some]
      refine gw_ld T hrl hF (.pointer (some ⟨N + 3, 0, none⟩)) rfl rfl (by k_ne) (fun w hF => by have hc := hF.pb; go_simp) (fun w hF => (fun h => dh1 (a := ⟨N + 4 + n, 0, none⟩) hB ht (by simp [lay]) h) (fun e he => by have hc := hF.pb; have hm := mem_listed he; simp [go_sem, hc] at hm; exact hm)) ?_
      walk_nrm
      exact S01234 q
  have S012 : ∀ (q : Nat), Goes Try.prog false (RH (lay N n k m0 Sh B) t) (DHk (lay N n k m0 Sh B) t) (AtSend (lay N n k m0 Sh B) t x (Cont (lay N n k m0 Sh B) t r)) (84) (G (b60.at ⟨#[.pointer (some ⟨N + 6 + n, 0, none⟩), .pointer (some ⟨N + 1, 0, none⟩), .pointer (some ⟨N + 4 + n, 0, none⟩), .pointer (some ⟨N + 7 + n + t, 0, none⟩), .pointer (some ⟨N + 5 + n, 0, none⟩), .pointer (some ⟨N, 0, none⟩), .int .i64 k, .int .i64 i, j8, j9, j10, j11, j12, j13, .pointer (some ⟨N + 3, 0, none⟩), .int .i64 t, .int .i64 (t + 1 : Nat), j17, j18, j19, j20], [dcall 61 #[.pointer (some ⟨N + 6 + n, 0, none⟩)]]⟩ (.inRegion O5 (Region.linearise.go .any O5 3 q #[true, true, true, false, false, false] []) :: [.inBlock 1, .code R6, .inLoop L60, .inBlock 0])) [bot]) w := by
    intro q
    refine any_step (X := fun l => Goes Try.prog false (RH (lay N n k m0 Sh B) t) (DHk (lay N n k m0 Sh B) t) (AtSend (lay N n k m0 Sh B) t x (Cont (lay N n k m0 Sh B) t r)) (84) (G (b60.at ⟨#[.pointer (some ⟨N + 6 + n, 0, none⟩), .pointer (some ⟨N + 1, 0, none⟩), .pointer (some ⟨N + 4 + n, 0, none⟩), .pointer (some ⟨N + 7 + n + t, 0, none⟩), .pointer (some ⟨N + 5 + n, 0, none⟩), .pointer (some ⟨N, 0, none⟩), .int .i64 k, .int .i64 i, j8, j9, j10, j11, j12, j13, .pointer (some ⟨N + 3, 0, none⟩), .int .i64 t, .int .i64 (t + 1 : Nat), j17, j18, j19, j20], [dcall 61 #[.pointer (some ⟨N + 6 + n, 0, none⟩)]]⟩ (.inRegion O5 l :: [.inBlock 1, .code R6, .inLoop L60, .inBlock 0])) [bot]) w) (rs := [3]) (by kernel_rfl) (by decide) (fun i hi q => ?_) q
    simp only [List.mem_cons, List.not_mem_nil, or_false] at hi
    subst hi
    · simp only [O5, blk1, L60, body60, Try.f60, Option.getD_some]
      refine gw_ld T hrl hF (.int .i64 n) rfl rfl (by k_ne) (fun w hF => by have hc := hF.thr; go_simp) (fun w hF => (fun h => dh1 (a := ⟨N, 0, none⟩) hB ht (by simp [lay]) h) (fun e he => by have hc := hF.thr; have hm := mem_listed he; simp [go_sem, hc] at hm; exact hm)) ?_
      walk_nrm
      exact S0123 q
  have S013 : ∀ (q : Nat), Goes Try.prog false (RH (lay N n k m0 Sh B) t) (DHk (lay N n k m0 Sh B) t) (AtSend (lay N n k m0 Sh B) t x (Cont (lay N n k m0 Sh B) t r)) (84) (G (b60.at ⟨#[.pointer (some ⟨N + 6 + n, 0, none⟩), .pointer (some ⟨N + 1, 0, none⟩), .pointer (some ⟨N + 4 + n, 0, none⟩), .pointer (some ⟨N + 7 + n + t, 0, none⟩), .pointer (some ⟨N + 5 + n, 0, none⟩), .pointer (some ⟨N, 0, none⟩), .int .i64 k, .int .i64 i, j8, j9, j10, j11, j12, j13, .pointer (some ⟨N + 3, 0, none⟩), .int .i64 t, j16, .int .i64 n, j18, j19, j20], [dcall 61 #[.pointer (some ⟨N + 6 + n, 0, none⟩)]]⟩ (.inRegion O5 (Region.linearise.go .any O5 3 q #[true, true, false, true, false, false] []) :: [.inBlock 1, .code R6, .inLoop L60, .inBlock 0])) [bot]) w := by
    intro q
    refine any_step (X := fun l => Goes Try.prog false (RH (lay N n k m0 Sh B) t) (DHk (lay N n k m0 Sh B) t) (AtSend (lay N n k m0 Sh B) t x (Cont (lay N n k m0 Sh B) t r)) (84) (G (b60.at ⟨#[.pointer (some ⟨N + 6 + n, 0, none⟩), .pointer (some ⟨N + 1, 0, none⟩), .pointer (some ⟨N + 4 + n, 0, none⟩), .pointer (some ⟨N + 7 + n + t, 0, none⟩), .pointer (some ⟨N + 5 + n, 0, none⟩), .pointer (some ⟨N, 0, none⟩), .int .i64 k, .int .i64 i, j8, j9, j10, j11, j12, j13, .pointer (some ⟨N + 3, 0, none⟩), .int .i64 t, j16, .int .i64 n, j18, j19, j20], [dcall 61 #[.pointer (some ⟨N + 6 + n, 0, none⟩)]]⟩ (.inRegion O5 l :: [.inBlock 1, .code R6, .inLoop L60, .inBlock 0])) [bot]) w) (rs := [2]) (by kernel_rfl) (by decide) (fun i hi q => ?_) q
    simp only [List.mem_cons, List.not_mem_nil, or_false] at hi
    subst hi
    · simp only [O5, blk1, L60, body60, Try.f60, Option.getD_some]
      refine gw_val T (.int .i64 (t + 1 : Nat)) rfl rfl (by k_ne) (fun _ => by go_simp) (fun _ => by simp [go_sem, *]) ?_
      walk_nrm
      exact S0123 q
  have S123 : ∀ (q : Nat), Goes Try.prog false (RH (lay N n k m0 Sh B) t) (DHk (lay N n k m0 Sh B) t) (AtSend (lay N n k m0 Sh B) t x (Cont (lay N n k m0 Sh B) t r)) (84) (G (b60.at ⟨#[.pointer (some ⟨N + 6 + n, 0, none⟩), .pointer (some ⟨N + 1, 0, none⟩), .pointer (some ⟨N + 4 + n, 0, none⟩), .pointer (some ⟨N + 7 + n + t, 0, none⟩), .pointer (some ⟨N + 5 + n, 0, none⟩), .pointer (some ⟨N, 0, none⟩), .int .i64 k, .int .i64 i, j8, j9, j10, j11, j12, j13, j14, .int .i64 t, .int .i64 (t + 1 : Nat), .int .i64 n, j18, j19, j20], [dcall 61 #[.pointer (some ⟨N + 6 + n, 0, none⟩)]]⟩ (.inRegion O5 (Region.linearise.go .any O5 3 q #[false, true, true, true, false, false] []) :: [.inBlock 1, .code R6, .inLoop L60, .inBlock 0])) [bot]) w := by
    intro q
    refine any_step (X := fun l => Goes Try.prog false (RH (lay N n k m0 Sh B) t) (DHk (lay N n k m0 Sh B) t) (AtSend (lay N n k m0 Sh B) t x (Cont (lay N n k m0 Sh B) t r)) (84) (G (b60.at ⟨#[.pointer (some ⟨N + 6 + n, 0, none⟩), .pointer (some ⟨N + 1, 0, none⟩), .pointer (some ⟨N + 4 + n, 0, none⟩), .pointer (some ⟨N + 7 + n + t, 0, none⟩), .pointer (some ⟨N + 5 + n, 0, none⟩), .pointer (some ⟨N, 0, none⟩), .int .i64 k, .int .i64 i, j8, j9, j10, j11, j12, j13, j14, .int .i64 t, .int .i64 (t + 1 : Nat), .int .i64 n, j18, j19, j20], [dcall 61 #[.pointer (some ⟨N + 6 + n, 0, none⟩)]]⟩ (.inRegion O5 l :: [.inBlock 1, .code R6, .inLoop L60, .inBlock 0])) [bot]) w) (rs := [0, 4]) (by kernel_rfl) (by decide) (fun i hi q => ?_) q
    simp only [List.mem_cons, List.not_mem_nil, or_false] at hi
    rcases hi with rfl | rfl
    · simp only [O5, blk1, L60, body60, Try.f60, Option.getD_some]
      refine gw_ld T hrl hF (.pointer (some ⟨N + 3, 0, none⟩)) rfl rfl (by k_ne) (fun w hF => by have hc := hF.pb; go_simp) (fun w hF => (fun h => dh1 (a := ⟨N + 4 + n, 0, none⟩) hB ht (by simp [lay]) h) (fun e he => by have hc := hF.pb; have hm := mem_listed he; simp [go_sem, hc] at hm; exact hm)) ?_
      walk_nrm
      exact S0123 q
    · simp only [O5, blk1, L60, body60, Try.f60, Option.getD_some]
      refine gw_val T (.int .i64 ((t + 1) % n : Nat)) rfl rfl (by k_ne) (fun _ => by go_simp) (fun _ => by simp [go_sem, *]) ?_
      walk_nrm
      exact S1234 q
  have S01 : ∀ (q : Nat), Goes Try.prog false (RH (lay N n k m0 Sh B) t) (DHk (lay N n k m0 Sh B) t) (AtSend (lay N n k m0 Sh B) t x (Cont (lay N n k m0 Sh B) t r)) (85) (G (b60.at ⟨#[.pointer (some ⟨N + 6 + n, 0, none⟩), .pointer (some ⟨N + 1, 0, none⟩), .pointer (some ⟨N + 4 + n, 0, none⟩), .pointer (some ⟨N + 7 + n + t, 0, none⟩), .pointer (some ⟨N + 5 + n, 0, none⟩), .pointer (some ⟨N, 0, none⟩), .int .i64 k, .int .i64 i, j8, j9, j10, j11, j12, j13, .pointer (some ⟨N + 3, 0, none⟩), .int .i64 t, j16, j17, j18, j19, j20], [dcall 61 #[.pointer (some ⟨N + 6 + n, 0, none⟩)]]⟩ (.inRegion O5 (Region.linearise.go .any O5 4 q #[true, true, false, false, false, false] []) :: [.inBlock 1, .code R6, .inLoop L60, .inBlock 0])) [bot]) w := by
    intro q
    refine any_step (X := fun l => Goes Try.prog false (RH (lay N n k m0 Sh B) t) (DHk (lay N n k m0 Sh B) t) (AtSend (lay N n k m0 Sh B) t x (Cont (lay N n k m0 Sh B) t r)) (85) (G (b60.at ⟨#[.pointer (some ⟨N + 6 + n, 0, none⟩), .pointer (some ⟨N + 1, 0, none⟩), .pointer (some ⟨N + 4 + n, 0, none⟩), .pointer (some ⟨N + 7 + n + t, 0, none⟩), .pointer (some ⟨N + 5 + n, 0, none⟩), .pointer (some ⟨N, 0, none⟩), .int .i64 k, .int .i64 i, j8, j9, j10, j11, j12, j13, .pointer (some ⟨N + 3, 0, none⟩), .int .i64 t, j16, j17, j18, j19, j20], [dcall 61 #[.pointer (some ⟨N + 6 + n, 0, none⟩)]]⟩ (.inRegion O5 l :: [.inBlock 1, .code R6, .inLoop L60, .inBlock 0])) [bot]) w) (rs := [2, 3]) (by kernel_rfl) (by decide) (fun i hi q => ?_) q
    simp only [List.mem_cons, List.not_mem_nil, or_false] at hi
    rcases hi with rfl | rfl
    · simp only [O5, blk1, L60, body60, Try.f60, Option.getD_some]
      refine gw_val T (.int .i64 (t + 1 : Nat)) rfl rfl (by k_ne) (fun _ => by go_simp) (fun _ => by simp [go_sem, *]) ?_
      walk_nrm
      exact S012 q
    · simp only [O5, blk1, L60, body60, Try.f60, Option.getD_some]
      refine gw_ld T hrl hF (.int .i64 n) rfl rfl (by k_ne) (fun w hF => by have hc := hF.thr; go_simp) (fun w hF => (fun h => dh1 (a := ⟨N, 0, none⟩) hB ht (by simp [lay]) h) (fun e he => by have hc := hF.thr; have hm := mem_listed he; simp [go_sem, hc] at hm; exact hm)) ?_
      walk_nrm
      exact S013 q
  have S03 : ∀ (q : Nat), Goes Try.prog false (RH (lay N n k m0 Sh B) t) (DHk (lay N n k m0 Sh B) t) (AtSend (lay N n k m0 Sh B) t x (Cont (lay N n k m0 Sh B) t r)) (85) (G (b60.at ⟨#[.pointer (some ⟨N + 6 + n, 0, none⟩), .pointer (some ⟨N + 1, 0, none⟩), .pointer (some ⟨N + 4 + n, 0, none⟩), .pointer (some ⟨N + 7 + n + t, 0, none⟩), .pointer (some ⟨N + 5 + n, 0, none⟩), .pointer (some ⟨N, 0, none⟩), .int .i64 k, .int .i64 i, j8, j9, j10, j11, j12, j13, .pointer (some ⟨N + 3, 0, none⟩), j15, j16, .int .i64 n, j18, j19, j20], [dcall 61 #[.pointer (some ⟨N + 6 + n, 0, none⟩)]]⟩ (.inRegion O5 (Region.linearise.go .any O5 4 q #[true, false, false, true, false, false] []) :: [.inBlock 1, .code R6, .inLoop L60, .inBlock 0])) [bot]) w := by
    intro q
    refine any_step (X := fun l => Goes Try.prog false (RH (lay N n k m0 Sh B) t) (DHk (lay N n k m0 Sh B) t) (AtSend (lay N n k m0 Sh B) t x (Cont (lay N n k m0 Sh B) t r)) (85) (G (b60.at ⟨#[.pointer (some ⟨N + 6 + n, 0, none⟩), .pointer (some ⟨N + 1, 0, none⟩), .pointer (some ⟨N + 4 + n, 0, none⟩), .pointer (some ⟨N + 7 + n + t, 0, none⟩), .pointer (some ⟨N + 5 + n, 0, none⟩), .pointer (some ⟨N, 0, none⟩), .int .i64 k, .int .i64 i, j8, j9, j10, j11, j12, j13, .pointer (some ⟨N + 3, 0, none⟩), j15, j16, .int .i64 n, j18, j19, j20], [dcall 61 #[.pointer (some ⟨N + 6 + n, 0, none⟩)]]⟩ (.inRegion O5 l :: [.inBlock 1, .code R6, .inLoop L60, .inBlock 0])) [bot]) w) (rs := [1]) (by kernel_rfl) (by decide) (fun i hi q => ?_) q
    simp only [List.mem_cons, List.not_mem_nil, or_false] at hi
    subst hi
    · simp only [O5, blk1, L60, body60, Try.f60, Option.getD_some]
      refine gw_ld T hrl hF (.int .i64 t) rfl rfl (by k_ne) (fun w hF => by have hc := hF.tb; go_simp) (fun w hF => (fun h => dh1 (a := ⟨N + 7 + n + t, 0, none⟩) hB ht (by simp [lay]) h) (fun e he => by have hc := hF.tb; have hm := mem_listed he; simp [go_sem, hc] at hm; exact hm)) ?_
      walk_nrm
      exact S013 q
  have S12 : ∀ (q : Nat), Goes Try.prog false (RH (lay N n k m0 Sh B) t) (DHk (lay N n k m0 Sh B) t) (AtSend (lay N n k m0 Sh B) t x (Cont (lay N n k m0 Sh B) t r)) (85) (G (b60.at ⟨#[.pointer (some ⟨N + 6 + n, 0, none⟩), .pointer (some ⟨N + 1, 0, none⟩), .pointer (some ⟨N + 4 + n, 0, none⟩), .pointer (some ⟨N + 7 + n + t, 0, none⟩), .pointer (some ⟨N + 5 + n, 0, none⟩), .pointer (some ⟨N, 0, none⟩), .int .i64 k, .int .i64 i, j8, j9, j10, j11, j12, j13, j14, .int .i64 t, .int .i64 (t + 1 : Nat), j17, j18, j19, j20], [dcall 61 #[.pointer (some ⟨N + 6 + n, 0, none⟩)]]⟩ (.inRegion O5 (Region.linearise.go .any O5 4 q #[false, true, true, false, false, false] []) :: [.inBlock 1, .code R6, .inLoop L60, .inBlock 0])) [bot]) w := by
    intro q
    refine any_step (X := fun l => Goes Try.prog false (RH (lay N n k m0 Sh B) t) (DHk (lay N n k m0 Sh B) t) (AtSend (lay N n k m0 Sh B) t x (Cont (lay N n k m0 Sh B) t r)) (85) (G (b60.at ⟨#[.pointer (some ⟨N + 6 + n, 0, none⟩), .pointer (some ⟨N + 1, 0, none⟩), .pointer (some ⟨N + 4 + n, 0, none⟩), .pointer (some ⟨N + 7 + n + t, 0, none⟩), .pointer (some ⟨N + 5 + n, 0, none⟩), .pointer (some ⟨N, 0, none⟩), .int .i64 k, .int .i64 i, j8, j9, j10, j11, j12, j13, j14, .int .i64 t, .int .i64 (t + 1 : Nat), j17, j18, j19, j20], [dcall 61 #[.pointer (some ⟨N + 6 + n, 0, none⟩)]]⟩ (.inRegion O5 l :: [.inBlock 1, .code R6, .inLoop L60, .inBlock 0])) [bot]) w) (rs := [0, 3]) (by kernel_rfl) (by decide) (fun i hi q => ?_) q
    simp only [List.mem_cons, List.not_mem_nil, or_false] at hi
    rcases hi with rfl | rfl
    · simp only [O5, blk1, L60, body60, Try.f60, Option.getD_some]
      refine gw_ld T hrl hF (.pointer (some ⟨N + 3, 0, none⟩)) rfl rfl (by k_ne) (fun w hF => by have hc := hF.pb; go_simp) (fun w hF => (fun h => dh1 (a := ⟨N + 4 + n, 0, none⟩) hB ht (by simp [lay]) h) (fun e he => by have hc := hF.pb; have hm := mem_listed he; simp [go_sem, hc] at hm; exact hm)) ?_
      walk_nrm
      exact S012 q
    · simp only [O5, blk1, L60, body60, Try.f60, Option.getD_some]
      refine gw_ld T hrl hF (.int .i64 n) rfl rfl (by k_ne) (fun w hF => by have hc := hF.thr; go_simp) (fun w hF => (fun h => dh1 (a := ⟨N, 0, none⟩) hB ht (by simp [lay]) h) (fun e he => by have hc := hF.thr; have hm := mem_listed he; simp [go_sem, hc] at hm; exact hm)) ?_
      walk_nrm
      exact S123 q
  have S13 : ∀ (q : Nat), Goes Try.prog false (RH (lay N n k m0 Sh B) t) (DHk (lay N n k m0 Sh B) t) (AtSend (lay N n k m0 Sh B) t x (Cont (lay N n k m0 Sh B) t r)) (85) (G (b60.at ⟨#[.pointer (some ⟨N + 6 + n, 0, none⟩), .pointer (some ⟨N + 1, 0, none⟩), .pointer (some ⟨N + 4 + n, 0, none⟩), .pointer (some ⟨N + 7 + n + t, 0, none⟩), .pointer (some ⟨N + 5 + n, 0, none⟩), .pointer (some ⟨N, 0, none⟩), .int .i64 k, .int .i64 i, j8, j9, j10, j11, j12, j13, j14, .int .i64 t, j16, .int .i64 n, j18, j19, j20], [dcall 61 #[.pointer (some ⟨N + 6 + n, 0, none⟩)]]⟩ (.inRegion O5 (Region.linearise.go .any O5 4 q #[false, true, false, true, false, false] []) :: [.inBlock 1, .code R6, .inLoop L60, .inBlock 0])) [bot]) w := by
    intro q
    refine any_step (X := fun l => Goes Try.prog false (RH (lay N n k m0 Sh B) t) (DHk (lay N n k m0 Sh B) t) (AtSend (lay N n k m0 Sh B) t x (Cont (lay N n k m0 Sh B) t r)) (85) (G (b60.at ⟨#[.pointer (some ⟨N + 6 + n, 0, none⟩), .pointer (some ⟨N + 1, 0, none⟩), .pointer (some ⟨N + 4 + n, 0, none⟩), .pointer (some ⟨N + 7 + n + t, 0, none⟩), .pointer (some ⟨N + 5 + n, 0, none⟩), .pointer (some ⟨N, 0, none⟩), .int .i64 k, .int .i64 i, j8, j9, j10, j11, j12, j13, j14, .int .i64 t, j16, .int .i64 n, j18, j19, j20], [dcall 61 #[.pointer (some ⟨N + 6 + n, 0, none⟩)]]⟩ (.inRegion O5 l :: [.inBlock 1, .code R6, .inLoop L60, .inBlock 0])) [bot]) w) (rs := [0, 2]) (by kernel_rfl) (by decide) (fun i hi q => ?_) q
    simp only [List.mem_cons, List.not_mem_nil, or_false] at hi
    rcases hi with rfl | rfl
    · simp only [O5, blk1, L60, body60, Try.f60, Option.getD_some]
      refine gw_ld T hrl hF (.pointer (some ⟨N + 3, 0, none⟩)) rfl rfl (by k_ne) (fun w hF => by have hc := hF.pb; go_simp) (fun w hF => (fun h => dh1 (a := ⟨N + 4 + n, 0, none⟩) hB ht (by simp [lay]) h) (fun e he => by have hc := hF.pb; have hm := mem_listed he; simp [go_sem, hc] at hm; exact hm)) ?_
      walk_nrm
      exact S013 q
    · simp only [O5, blk1, L60, body60, Try.f60, Option.getD_some]
      refine gw_val T (.int .i64 (t + 1 : Nat)) rfl rfl (by k_ne) (fun _ => by go_simp) (fun _ => by simp [go_sem, *]) ?_
      walk_nrm
      exact S123 q
  have S0 : ∀ (q : Nat), Goes Try.prog false (RH (lay N n k m0 Sh B) t) (DHk (lay N n k m0 Sh B) t) (AtSend (lay N n k m0 Sh B) t x (Cont (lay N n k m0 Sh B) t r)) (86) (G (b60.at ⟨#[.pointer (some ⟨N + 6 + n, 0, none⟩), .pointer (some ⟨N + 1, 0, none⟩), .pointer (some ⟨N + 4 + n, 0, none⟩), .pointer (some ⟨N + 7 + n + t, 0, none⟩), .pointer (some ⟨N + 5 + n, 0, none⟩), .pointer (some ⟨N, 0, none⟩), .int .i64 k, .int .i64 i, j8, j9, j10, j11, j12, j13, .pointer (some ⟨N + 3, 0, none⟩), j15, j16, j17, j18, j19, j20], [dcall 61 #[.pointer (some ⟨N + 6 + n, 0, none⟩)]]⟩ (.inRegion O5 (Region.linearise.go .any O5 5 q #[true, false, false, false, false, false] []) :: [.inBlock 1, .code R6, .inLoop L60, .inBlock 0])) [bot]) w := by
    intro q
    refine any_step (X := fun l => Goes Try.prog false (RH (lay N n k m0 Sh B) t) (DHk (lay N n k m0 Sh B) t) (AtSend (lay N n k m0 Sh B) t x (Cont (lay N n k m0 Sh B) t r)) (86) (G (b60.at ⟨#[.pointer (some ⟨N + 6 + n, 0, none⟩), .pointer (some ⟨N + 1, 0, none⟩), .pointer (some ⟨N + 4 + n, 0, none⟩), .pointer (some ⟨N + 7 + n + t, 0, none⟩), .pointer (some ⟨N + 5 + n, 0, none⟩), .pointer (some ⟨N, 0, none⟩), .int .i64 k, .int .i64 i, j8, j9, j10, j11, j12, j13, .pointer (some ⟨N + 3, 0, none⟩), j15, j16, j17, j18, j19, j20], [dcall 61 #[.pointer (some ⟨N + 6 + n, 0, none⟩)]]⟩ (.inRegion O5 l :: [.inBlock 1, .code R6, .inLoop L60, .inBlock 0])) [bot]) w) (rs := [1, 3]) (by kernel_rfl) (by decide) (fun i hi q => ?_) q
    simp only [List.mem_cons, List.not_mem_nil, or_false] at hi
    rcases hi with rfl | rfl
    · simp only [O5, blk1, L60, body60, Try.f60, Option.getD_some]
      refine gw_ld T hrl hF (.int .i64 t) rfl rfl (by k_ne) (fun w hF => by have hc := hF.tb; go_simp) (fun w hF => (fun h => dh1 (a := ⟨N + 7 + n + t, 0, none⟩) hB ht (by simp [lay]) h) (fun e he => by have hc := hF.tb; have hm := mem_listed he; simp [go_sem, hc] at hm; exact hm)) ?_
      walk_nrm
      exact S01 q
    · simp only [O5, blk1, L60, body60, Try.f60, Option.getD_some]
      refine gw_ld T hrl hF (.int .i64 n) rfl rfl (by k_ne) (fun w hF => by have hc := hF.thr; go_simp) (fun w hF => (fun h => dh1 (a := ⟨N, 0, none⟩) hB ht (by simp [lay]) h) (fun e he => by have hc := hF.thr; have hm := mem_listed he; simp [go_sem, hc] at hm; exact hm)) ?_
      walk_nrm
      exact S03 q
  have S1 : ∀ (q : Nat), Goes Try.prog false (RH (lay N n k m0 Sh B) t) (DHk (lay N n k m0 Sh B) t) (AtSend (lay N n k m0 Sh B) t x (Cont (lay N n k m0 Sh B) t r)) (86) (G (b60.at ⟨#[.pointer (some ⟨N + 6 + n, 0, none⟩), .pointer (some ⟨N + 1, 0, none⟩), .pointer (some ⟨N + 4 + n, 0, none⟩), .pointer (some ⟨N + 7 + n + t, 0, none⟩), .pointer (some ⟨N + 5 + n, 0, none⟩), .pointer (some ⟨N, 0, none⟩), .int .i64 k, .int .i64 i, j8, j9, j10, j11, j12, j13, j14, .int .i64 t, j16, j17, j18, j19, j20], [dcall 61 #[.pointer (some ⟨N + 6 + n, 0, none⟩)]]⟩ (.inRegion O5 (Region.linearise.go .any O5 5 q #[false, true, false, false, false, false] []) :: [.inBlock 1, .code R6, .inLoop L60, .inBlock 0])) [bot]) w := by
    intro q
    refine any_step (X := fun l => Goes Try.prog false (RH (lay N n k m0 Sh B) t) (DHk (lay N n k m0 Sh B) t) (AtSend (lay N n k m0 Sh B) t x (Cont (lay N n k m0 Sh B) t r)) (86) (G (b60.at ⟨#[.pointer (some ⟨N + 6 + n, 0, none⟩), .pointer (some ⟨N + 1, 0, none⟩), .pointer (some ⟨N + 4 + n, 0, none⟩), .pointer (some ⟨N + 7 + n + t, 0, none⟩), .pointer (some ⟨N + 5 + n, 0, none⟩), .pointer (some ⟨N, 0, none⟩), .int .i64 k, .int .i64 i, j8, j9, j10, j11, j12, j13, j14, .int .i64 t, j16, j17, j18, j19, j20], [dcall 61 #[.pointer (some ⟨N + 6 + n, 0, none⟩)]]⟩ (.inRegion O5 l :: [.inBlock 1, .code R6, .inLoop L60, .inBlock 0])) [bot]) w) (rs := [0, 2, 3]) (by kernel_rfl) (by decide) (fun i hi q => ?_) q
    simp only [List.mem_cons, List.not_mem_nil, or_false] at hi
    rcases hi with rfl | rfl | rfl
    · simp only [O5, blk1, L60, body60, Try.f60, Option.getD_some]
      refine gw_ld T hrl hF (.pointer (some ⟨N + 3, 0, none⟩)) rfl rfl (by k_ne) (fun w hF => by have hc := hF.pb; go_simp) (fun w hF => (fun h => dh1 (a := ⟨N + 4 + n, 0, none⟩) hB ht (by simp [lay]) h) (fun e he => by have hc := hF.pb; have hm := mem_listed he; simp [go_sem, hc] at hm; exact hm)) ?_
      walk_nrm
      exact S01 q
    · simp only [O5, blk1, L60, body60, Try.f60, Option.getD_some]
      refine gw_val T (.int .i64 (t + 1 : Nat)) rfl rfl (by k_ne) (fun _ => by go_simp) (fun _ => by simp [go_sem, *]) ?_
      walk_nrm
      exact S12 q
    · simp only [O5, blk1, L60, body60, Try.f60, Option.getD_some]
      refine gw_ld T hrl hF (.int .i64 n) rfl rfl (by k_ne) (fun w hF => by have hc := hF.thr; go_simp) (fun w hF => (fun h => dh1 (a := ⟨N, 0, none⟩) hB ht (by simp [lay]) h) (fun e he => by have hc := hF.thr; have hm := mem_listed he; simp [go_sem, hc] at hm; exact hm)) ?_
      walk_nrm
      exact S13 q
  have S3 : ∀ (q : Nat), Goes Try.prog false (RH (lay N n k m0 Sh B) t) (DHk (lay N n k m0 Sh B) t) (AtSend (lay N n k m0 Sh B) t x (Cont (lay N n k m0 Sh B) t r)) (86) (G (b60.at ⟨#[.pointer (some ⟨N + 6 + n, 0, none⟩), .pointer (some ⟨N + 1, 0, none⟩), .pointer (some ⟨N + 4 + n, 0, none⟩), .pointer (some ⟨N + 7 + n + t, 0, none⟩), .pointer (some ⟨N + 5 + n, 0, none⟩), .pointer (some ⟨N, 0, none⟩), .int .i64 k, .int .i64 i, j8, j9, j10, j11, j12, j13, j14, j15, j16, .int .i64 n, j18, j19, j20], [dcall 61 #[.pointer (some ⟨N + 6 + n, 0, none⟩)]]⟩ (.inRegion O5 (Region.linearise.go .any O5 5 q #[false, false, false, true, false, false] []) :: [.inBlock 1, .code R6, .inLoop L60, .inBlock 0])) [bot]) w := by
    intro q
    refine any_step (X := fun l => Goes Try.prog false (RH (lay N n k m0 Sh B) t) (DHk (lay N n k m0 Sh B) t) (AtSend (lay N n k m0 Sh B) t x (Cont (lay N n k m0 Sh B) t r)) (86) (G (b60.at ⟨#[.pointer (some ⟨N + 6 + n, 0, none⟩), .pointer (some ⟨N + 1, 0, none⟩), .pointer (some ⟨N + 4 + n, 0, none⟩), .pointer (some ⟨N + 7 + n + t, 0, none⟩), .pointer (some ⟨N + 5 + n, 0, none⟩), .pointer (some ⟨N, 0, none⟩), .int .i64 k, .int .i64 i, j8, j9, j10, j11, j12, j13, j14, j15, j16, .int .i64 n, j18, j19, j20], [dcall 61 #[.pointer (some ⟨N + 6 + n, 0, none⟩)]]⟩ (.inRegion O5 l :: [.inBlock 1, .code R6, .inLoop L60, .inBlock 0])) [bot]) w) (rs := [0, 1]) (by kernel_rfl) (by decide) (fun i hi q => ?_) q
    simp only [List.mem_cons, List.not_mem_nil, or_false] at hi
    rcases hi with rfl | rfl
    · simp only [O5, blk1, L60, body60, Try.f60, Option.getD_some]
      refine gw_ld T hrl hF (.pointer (some ⟨N + 3, 0, none⟩)) rfl rfl (by k_ne) (fun w hF => by have hc := hF.pb; go_simp) (fun w hF => (fun h => dh1 (a := ⟨N + 4 + n, 0, none⟩) hB ht (by simp [lay]) h) (fun e he => by have hc := hF.pb; have hm := mem_listed he; simp [go_sem, hc] at hm; exact hm)) ?_
      walk_nrm
      exact S03 q
    · simp only [O5, blk1, L60, body60, Try.f60, Option.getD_some]
      refine gw_ld T hrl hF (.int .i64 t) rfl rfl (by k_ne) (fun w hF => by have hc := hF.tb; go_simp) (fun w hF => (fun h => dh1 (a := ⟨N + 7 + n + t, 0, none⟩) hB ht (by simp [lay]) h) (fun e he => by have hc := hF.tb; have hm := mem_listed he; simp [go_sem, hc] at hm; exact hm)) ?_
      walk_nrm
      exact S13 q
  have Se : ∀ (q : Nat), Goes Try.prog false (RH (lay N n k m0 Sh B) t) (DHk (lay N n k m0 Sh B) t) (AtSend (lay N n k m0 Sh B) t x (Cont (lay N n k m0 Sh B) t r)) (87) (G (b60.at ⟨#[.pointer (some ⟨N + 6 + n, 0, none⟩), .pointer (some ⟨N + 1, 0, none⟩), .pointer (some ⟨N + 4 + n, 0, none⟩), .pointer (some ⟨N + 7 + n + t, 0, none⟩), .pointer (some ⟨N + 5 + n, 0, none⟩), .pointer (some ⟨N, 0, none⟩), .int .i64 k, .int .i64 i, j8, j9, j10, j11, j12, j13, j14, j15, j16, j17, j18, j19, j20], [dcall 61 #[.pointer (some ⟨N + 6 + n, 0, none⟩)]]⟩ (.inRegion O5 (Region.linearise.go .any O5 6 q #[false, false, false, false, false, false] []) :: [.inBlock 1, .code R6, .inLoop L60, .inBlock 0])) [bot]) w := by
    intro q
    refine any_step (X := fun l => Goes Try.prog false (RH (lay N n k m0 Sh B) t) (DHk (lay N n k m0 Sh B) t) (AtSend (lay N n k m0 Sh B) t x (Cont (lay N n k m0 Sh B) t r)) (87) (G (b60.at ⟨#[.pointer (some ⟨N + 6 + n, 0, none⟩), .pointer (some ⟨N + 1, 0, none⟩), .pointer (some ⟨N + 4 + n, 0, none⟩), .pointer (some ⟨N + 7 + n + t, 0, none⟩), .pointer (some ⟨N + 5 + n, 0, none⟩), .pointer (some ⟨N, 0, none⟩), .int .i64 k, .int .i64 i, j8, j9, j10, j11, j12, j13, j14, j15, j16, j17, j18, j19, j20], [dcall 61 #[.pointer (some ⟨N + 6 + n, 0, none⟩)]]⟩ (.inRegion O5 l :: [.inBlock 1, .code R6, .inLoop L60, .inBlock 0])) [bot]) w) (rs := [0, 1, 3]) (by kernel_rfl) (by decide) (fun i hi q => ?_) q
    simp only [List.mem_cons, List.not_mem_nil, or_false] at hi
    rcases hi with rfl | rfl | rfl
    · simp only [O5, blk1, L60, body60, Try.f60, Option.getD_some]
      refine gw_ld T hrl hF (.pointer (some ⟨N + 3, 0, none⟩)) rfl rfl (by k_ne) (fun w hF => by have hc := hF.pb; go_simp) (fun w hF => (fun h => dh1 (a := ⟨N + 4 + n, 0, none⟩) hB ht (by simp [lay]) h) (fun e he => by have hc := hF.pb; have hm := mem_listed he; simp [go_sem, hc] at hm; exact hm)) ?_
      walk_nrm
      exact S0 q
    · simp only [O5, blk1, L60, body60, Try.f60, Option.getD_some]
      refine gw_ld T hrl hF (.int .i64 t) rfl rfl (by k_ne) (fun w hF => by have hc := hF.tb; go_simp) (fun w hF => (fun h => dh1 (a := ⟨N + 7 + n + t, 0, none⟩) hB ht (by simp [lay]) h) (fun e he => by have hc := hF.tb; have hm := mem_listed he; simp [go_sem, hc] at hm; exact hm)) ?_
      walk_nrm
      exact S1 q
    · simp only [O5, blk1, L60, body60, Try.f60, Option.getD_some]
      refine gw_ld T hrl hF (.int .i64 n) rfl rfl (by k_ne) (fun w hF => by have hc := hF.thr; go_simp) (fun w hF => (fun h => dh1 (a := ⟨N, 0, none⟩) hB ht (by simp [lay]) h) (fun e he => by have hc := hF.thr; have hm := mem_listed he; simp [go_sem, hc] at hm; exact hm)) ?_
      walk_nrm
      exact S3 q
  exact Se q
end
end
end Go.Proofs.Ytejedbknpjffkaa.Rl
