/- GOROUTINE 0 BESIDE GOROUTINES THAT ONLY LEAVE: the judgement 'To': from any machine in which it stands so, the run comes to what is asked. Laws of one step; of a communication. -/
import Derived.Test.YtejedbknpjffkaaRlQ
namespace Go.Proofs.Ytejedbknpjffkaa.Rl
open Go Go.Conc
open Go.ConcN (sumTo sumTo_upd upd upd_same upd_ne)
open Go.ConcR (g_of_ofEvents)

def DL (Sh : Loc → Prop) (B : Nat) (_ _ : World) (es : Array Event) : Prop := ∀ e ∈ es, EvL Sh B e
theorem tl {Sh : Loc → Prop} {B : Nat} : Terms AtRel (DL Sh B) := ⟨atRel_trans, fun _ => by simp [DL]⟩

/-- Goroutine 0 stands at g, the world being W but for the count of draws; all others leave; the trace is well. -/
def Sit (P : Program) (Sh : Loc → Prop) (B : Nat) (g : Goroutine) (W : World) (m : Machine) (t : Trace) : Prop :=
  ∃ (gs : Array Goroutine) (w : World) (sl : Option (Nat × Nat)) (q : Nat → Nat), m = crowd gs w sl ∧ gs[0]? = some g ∧ AtRel W w ∧ Leavers P t gs q ∧ Past Sh B t

def To (P : Program) (Fin : Machine → Trace → Prop) (Sh : Loc → Prop) (B : Nat) (g : Goroutine) (W : World) : Prop :=
  ∀ m t, Sit P Sh B g W m t → ∃ N m' t', runNT P N m t = (.next m', t') ∧ Fin m' t'

theorem run_more {P : Program} {m m' : Machine} {t t' : Trace} {N : Nat} {Fin : Machine → Trace → Prop} (h : runNT P N m t = (.next m', t')) (h' : ∃ K m'' t'', runNT P K m' t' = (.next m'', t'') ∧ Fin m'' t'') : ∃ K m'' t'', runNT P K m t = (.next m'', t'') ∧ Fin m'' t'' := by
  obtain ⟨K, m'', t'', h1, h2⟩ := h'
  exact ⟨N + K, m'', t'', by rw [runNT_add, h]; exact h1, h2⟩

section
variable {P : Program} {Fin : Machine → Trace → Prop} {Sh : Loc → Prop} {B B' : Nat} {g g' g₂ : Goroutine} {W W' : World}

theorem To.up (h : To P Fin Sh B' g W) (hB : B ≤ B') : To P Fin Sh B g W := fun m t ⟨gs, w, sl, q, e, h0, hr, hL, hP⟩ => h m t ⟨gs, w, sl, q, e, h0, hr, hL, hP.mono hB⟩
theorem To.rel (h : To P Fin Sh B g W) (hr : AtRel W W') : To P Fin Sh B g W' := fun m t ⟨gs, w, sl, q, e, h0, hr', hL, hP⟩ => h m t ⟨gs, w, sl, q, e, h0, atRel_trans _ _ _ hr hr', hL, hP⟩

/-- A walk, to its stop. -/
theorem To.walk {Stop : Goroutine → World → Prop} {n : Nat} (h : Goes P true AtRel (DL Sh B) Stop n g W) (hS : ∀ g' W', Stop g' W' → To P Fin Sh B g' W') : To P Fin Sh B g W := by
  rintro m t ⟨gs, w, sl, q, rfl, h0, hr, hL, hP⟩
  obtain ⟨N, gs', a', w', sl', t', q', h1, _, h0', hs, hL', hP'⟩ := walk_beside (D := DL Sh B) (fun _ _ _ h => h) _ n gs g w sl t q (Nat.le_refl _) h0 hL hP (Goes.rely atRel_trans h hr)
  exact run_more h1 (hS _ _ hs _ _ ⟨gs', w', sl', q', rfl, h0', atRel_refl _, hL', hP'⟩)

/-- One step. -/
theorem To.go (hs : g.status = .running) (h : ∀ d, ∃ W₁ es, stepG P true g (W.at d) = .go g' W₁ es ∧ AtRel W' W₁ ∧ ∀ e ∈ es, EvL Sh B e) (h' : To P Fin Sh B g' W') : To P Fin Sh B g W := by
  refine To.walk (Stop := fun a w => a = g' ∧ AtRel W' w) (n := 1) (Goes.step hs fun w₁ h₁ => ?_) (fun a w ⟨e, hr⟩ => e ▸ h'.rel hr)
  obtain ⟨d, rfl⟩ := h₁
  obtain ⟨W₁, es, e, hr, he⟩ := h d
  rw [e]
  exact ⟨he, Goes.stop fun w₂ h₂ => ⟨rfl, atRel_trans _ _ _ hr h₂⟩⟩

/-- Leavers may slip; then it is goroutine 0's turn. -/
theorem pick0 (hrun : g.status = .running) : ∀ (M : Nat) (gs : Array Goroutine) (w : World) (sl : Option (Nat × Nat)) (t : Trace) (q : Nat → Nat), sumTo gs.size q ≤ M → gs[0]? = some g → Leavers P t gs q → Past Sh B t →
    ∃ (N : Nat) (gs' : Array Goroutine) (w' : World) (sl' sl'' : Option (Nat × Nat)) (t' : Trace) (q' : Nat → Nat) (d : Nat),
      runNT P N (crowd gs w sl) t = (.next (crowd gs' w' sl'), t') ∧ AtRel w w' ∧ gs'[0]? = some g ∧ Leavers P t' gs' q' ∧ Past Sh B t' ∧ stepT P (crowd gs' w' sl') = runT P (crowd gs' (w'.at d) sl'') 0 := by
  intro M
  induction M using Nat.strongRecOn with
  | _ M ih =>
    intro gs w sl t q hM h0 hL hP
    have haw : ∀ g ∈ gs, awake g := by
      intro x hx
      obtain ⟨i, hi, rfl⟩ := Array.mem_iff_getElem.1 hx
      rcases Nat.eq_zero_or_pos i with rfl | hpos
      · have : gs[0] = g := by simpa [Array.getElem?_eq_getElem hi] using h0
        rw [this]; exact awake_of (.inl hrun)
      · exact awake_of ((hL.old i _ hpos (Array.getElem?_eq_getElem hi)).status.elim .inl fun x => .inr (.inr x))
    obtain ⟨i, x, d, sl', hi, hg, hst⟩ := crowd_pick (P := P) (w := w) (sl := sl) haw ⟨0, g, h0, hrun⟩
    rcases Nat.eq_zero_or_pos i with rfl | hpos
    · exact ⟨0, gs, w, sl, sl', t, q, d, rfl, atRel_refl w, h0, hL, hP, hst⟩
    · have hq := hL.old i x hpos hi
      have hi0 : (i == 0) = false := by simp; omega
      have hlt : i < gs.size := (Array.getElem?_eq_some_iff.1 hi).1
      cases hqi : q i with
      | zero => rw [hqi] at hq; rw [hq.1] at hg; cases hg
      | succ k =>
        rw [hqi] at hq
        rcases hq with ⟨hf, _⟩ | ⟨_, g', es, hm, hstp, hq'⟩
        · rw [hf] at hg; cases hg
        have hrunT := runT_crowd_go (P := P) (sl := sl') (i := i) hi (by rw [hi0]; exact hstp (w.at d))
        have hsum : sumTo gs.size (upd q i k) + (k + 1) = sumTo gs.size q + k := by
          have := sumTo_upd q k id hlt
          simpa [hqi] using this
        have hsz : ((gs.map (woken P x g' (w.at d))).setIfInBounds i g').size = gs.size := by simp
        obtain ⟨N, gs', w', sl₁, sl₂, t', q', d', hr, hrel, h0', hL', hP', hst'⟩ := ih (sumTo gs.size (upd q i k)) (by omega) ((gs.map (woken P x g' (w.at d))).setIfInBounds i g') (w.at d) sl' (t ++ MemOp.ofEvents i x.frame.fn x.frame.place es) (upd q i k) (by rw [hsz]; exact Nat.le_refl _)
          (by
            have hne : i ≠ 0 := by omega
            rw [Array.getElem?_setIfInBounds_ne hne, Array.getElem?_map, h0]
            simp [woken_run hrun])
          ⟨fun j y hj hx => by
            by_cases hji : i = j
            · subst hji
              rw [Array.getElem?_setIfInBounds_self_of_lt (by simpa using hlt)] at hx
              obtain rfl := Option.some.inj hx
              rw [upd_same, Deaf_own]
              exact hq'
            · rw [Array.getElem?_setIfInBounds_ne hji, Array.getElem?_map] at hx
              obtain ⟨z, hz, rfl⟩ := Option.map_eq_some_iff.1 hx
              have hqj := hL.old j z hj hz
              rw [woken_quitsD hqj, upd_ne q k (Ne.symm hji), Deaf_other t hji _ g_of_ofEvents]
              exact hqj, fun j hj => by
            rw [Deaf_other t (g' := i) (by simp at hj; omega) _ g_of_ofEvents]
            exact hL.above j (by simpa using hj)⟩
          (hP.mute (by omega) hm)
        exact ⟨N + 1, gs', w', sl₁, sl₂, t', q', d', by simp only [runNT, hst, hrunT]; exact hr, atRel_trans _ _ _ ⟨d, rfl⟩ hrel, h0', hL', hP', hst'⟩

theorem leavers_silent {t : Trace} {gs : Array Goroutine} {q : Nat → Nat} (hL : Leavers P t gs q) (c : Nat) (s : Bool) : partners (gs.setIfInBounds 0 ph) c s = [] := by
  refine partners_nil fun j x hx => ?_
  rcases getElem?_stand _ _ _ _ hx with ⟨_, rfl⟩ | ⟨hj, hx'⟩
  · exact offersAt_ph _ _
  · refine offersAt_of_not_blocked ?_ _ _
    rcases (hL.old j x (by omega) hx').status with h | h <;> rw [h] <;> simp

/-- A communication that is over at once. -/
theorem To.comm (hs : g.status = .running) (h : ∀ (gs : Array Goroutine) (sl : Option (Nat × Nat)) (d : Nat), gs[0]? = some g → (∀ c s, partners (gs.setIfInBounds 0 ph) c s = []) →
      ∃ (W₁ : World) (ops : Array MemOp), runT P (crowd gs (W.at d) sl) 0 = (.next (crowd (gs.setIfInBounds 0 g') W₁ sl), ops) ∧ AtRel W' W₁ ∧ ∀ op ∈ ops, op.g = 0 ∧ op.act.low B ∧ op.act.touch? = none ∧ ∀ g' d, deafStep g' d op = d)
    (h' : To P Fin Sh B g' W') : To P Fin Sh B g W := by
  rintro m t ⟨gs, w, sl, q, rfl, h0, hr, hL, hP⟩
  obtain ⟨N, gs', w', sl', sl'', t', q', d, hrun, hrel, h0', hL', hP', hst⟩ := pick0 hs _ gs w sl t q (Nat.le_refl _) h0 hL hP
  obtain ⟨d', rfl⟩ := atRel_trans _ _ _ hr hrel
  obtain ⟨W₁, ops, hT, hr1, hops⟩ := h gs' sl'' d h0' (leavers_silent hL')
  have hlt : 0 < gs'.size := (Array.getElem?_eq_some_iff.1 h0').1
  have hD : ∀ g', Deaf (t' ++ ops) g' = Deaf t' g' := fun g' => Deaf_quiet fun op hop d => (hops op hop).2.2.2 g' d
  refine run_more hrun (run_more (N := 1) (m' := crowd (gs'.setIfInBounds 0 g') W₁ sl'') (t' := t' ++ ops) ?_ (h' _ _ ⟨_, W₁, sl'', q', rfl, by simp [hlt], hr1, ⟨fun j y hj hy => ?_, fun j hj => ?_⟩, ?_⟩))
  · simp only [runNT, hst]
    rw [show (W.at d').at d = W.at d from rfl, hT]
  · rw [Array.getElem?_setIfInBounds_ne (by omega)] at hy
    rw [hD]
    exact hL'.old j y hj hy
  · rw [hD]
    exact hL'.above j (by simpa using hj)
  · exact hP'.app0 (fun op hop => (hops op hop).1) (fun op hop b hb => by rw [(hops op hop).2.2.1] at hb; cases hb) (hD 0) (fun op hop => (hops op hop).2.1)
end
end Go.Proofs.Ytejedbknpjffkaa.Rl
