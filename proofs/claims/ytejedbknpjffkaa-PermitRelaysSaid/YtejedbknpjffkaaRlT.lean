/- THE RELAY, THE TRACE's SIDE: what is held of the trace while workers hand one cell round by channels and a starter joins them by a group: no race; who touches what; who knows the handed cell's touches; and at the join all is known to the starter. -/
import Derived.Conc.Beside
import Derived.Conc.CrowdRun
import Derived.Conc.TokenTrace
namespace Go.Proofs.Ytejedbknpjffkaa.Rl
open Go Go.Conc
open Go.ConcN (ShN RelBy fork_knows Deaf_absent)
open Go.ConcR (stA)

/-- What the trace's law names: the group's block, the handed cell, what each worker reads, what is shunned, the bound, how many goroutines there were. -/
structure TLay where
  Wg : Nat
  sumL : Loc
  Still : Nat → Loc → Prop
  Shun : Loc → Prop
  B : Nat
  m0 : Nat

structure TOk (T : TLay) : Prop where
  pos : 0 < T.m0
  sumSh : ¬ ShN T.Wg T.sumL
  sumMem : T.sumL.isMemory = true
  sumShun : ¬ T.Shun T.sumL
  stMem : ∀ q l, T.Still q l → l.isMemory = true
  stSh : ∀ q l, T.Still q l → ¬ ShN T.Wg l
  stSum : ∀ q l, T.Still q l → l ≠ T.sumL
  stShun : ∀ q l, T.Still q l → ¬ T.Shun l

section
variable (T : TLay)

/-- An operation behind the beginning, j workers being started. -/
structure LateOp (j : Nat) (op : MemOp) : Prop where
  low : op.act.low T.B
  gs : op.g < T.m0 + j
  norel : op.act ≠ .mark (.release (stA T.Wg))
  touch : ∀ x, op.act.touch? = some x →
    (op.g = 0 ∧ ((ShN T.Wg x.loc ∧ x.kind ≠ .plain) ∨ (¬ ShN T.Wg x.loc ∧ x.loc ≠ T.sumL ∧ (T.Shun x.loc → x.kind ≠ .plain)))) ∨
    (T.m0 ≤ op.g ∧ ((ShN T.Wg x.loc ∧ x.kind = .atomic) ∨ (x.kind = .plain ∧ (x.loc = T.sumL ∨ (x.write = false ∧ T.Still (op.g - T.m0) x.loc)))))

structure RT (t₀ : Trace) (j : Nat) (t : Trace) (K : Nat → Prop) : Prop where
  ext : ∃ U, t = t₀ ++ U
  clean : ∀ said, ¬ Race said t
  late : ∀ i op, t₀.size ≤ i → t[i]? = some op → LateOp T j op
  wrote : ∀ i a, touchAt t i = some a → a.write = true → ∀ q, q < j → T.Still q a.loc → Knows t (T.m0 + q) i
  sum : ∀ i a, touchAt t i = some a → a.loc = T.sumL → K i

/-- What is asked of the trace at the beginning. -/
structure T0 (B₀ : Nat) (t₀ : Trace) : Prop where
  past : Past T.Shun B₀ t₀
  le : B₀ ≤ T.B
  fresh : B₀ ≤ T.Wg
end

section
variable {T : TLay} {t₀ t u : Trace} {j B₀ : Nat} {K K' : Nat → Prop}

theorem LateOp.mono {j' : Nat} {op : MemOp} (h : LateOp T j op) (hj : j ≤ j') : LateOp T j' op := ⟨h.low, by have := h.gs; omega, h.norel, h.touch⟩

theorem T0.noSh (H : T0 T B₀ t₀) {i : Nat} {op : MemOp} {x : Touch} (hi : t₀[i]? = some op) (hx : op.act.touch? = some x) : ¬ ShN T.Wg x.loc := by
  rintro ⟨a, ha, hb⟩
  have hl := H.past.seen op (mem_of_getElem? hi)
  have hf := H.fresh
  obtain ⟨g, fn, pos, act⟩ := op
  cases act with
  | access e =>
    simp only [MemAct.touch?, Option.some.injEq] at hx
    subst hx
    simp only [MemAct.low] at hl
    simp only at ha
    rw [ha] at hl
    have : a.block < B₀ := hl
    omega
  | mark m =>
    cases m <;> simp only [MemAct.touch?, Option.some.injEq, reduceCtorEq] at hx
    all_goals
      subst hx
      simp only [Loc.cell.injEq] at ha
      subst ha
      simp only [MemAct.low] at hl
      omega
  | _ => simp [MemAct.touch?] at hx

theorem T0.noRel (H : T0 T B₀ t₀) : NoRelease (stA T.Wg) t₀ := by
  intro i hi
  obtain ⟨op, ho, hoa⟩ := Option.map_eq_some_iff.1 hi
  have hl := H.past.seen op (mem_of_getElem? ho)
  have hf := H.fresh
  rw [hoa] at hl
  simp only [MemAct.low, stA] at hl
  omega

theorem RT.le (h : RT T t₀ j t K) : t₀.size ≤ t.size := by obtain ⟨U, rfl⟩ := h.ext; simp

theorem RT.cases (h : RT T t₀ j t K) {i : Nat} {op : MemOp} (hi : t[i]? = some op) : (i < t₀.size ∧ t₀[i]? = some op) ∨ (t₀.size ≤ i ∧ LateOp T j op) := by
  rcases Nat.lt_or_ge i t₀.size with hlt | hge
  · obtain ⟨U, rfl⟩ := h.ext
    exact .inl ⟨hlt, by rw [← getElem?_append_old (u := U) hlt]; exact hi⟩
  · exact .inr ⟨hge, h.late i op hge hi⟩

theorem RT.quiet (h : RT T t₀ j t K) (H : T0 T B₀ t₀) (O : TOk T) : Quiet (ShN T.Wg) t := by
  intro i op x hi hx hs
  rcases h.cases hi with ⟨_, hi'⟩ | ⟨_, hl⟩
  · exact absurd hs (H.noSh hi' hx)
  · rcases hl.touch x hx with ⟨h0, ⟨_, hk⟩ | ⟨hn, _⟩⟩ | ⟨_, ⟨_, hk⟩ | ⟨_, e | ⟨_, hst⟩⟩⟩
    · exact ⟨hk, fun _ => h0⟩
    · exact absurd hs hn
    · rw [hk]; exact ⟨by simp, fun e => by cases e⟩
    · exact absurd (e ▸ hs) O.sumSh
    · exact absurd hs (O.stSh _ _ hst)

theorem RT.norel (h : RT T t₀ j t K) (H : T0 T B₀ t₀) : NoRelease (stA T.Wg) t := by
  intro i hi
  obtain ⟨op, ho, hoa⟩ := Option.map_eq_some_iff.1 hi
  rcases h.cases ho with ⟨_, ho'⟩ | ⟨_, hl⟩
  · exact H.noRel i (by rw [act?_of ho', hoa])
  · exact hl.norel hoa

/-- What the prefix holds, in the grown trace. -/
theorem RT.old (h : RT T t₀ j t K) (H : T0 T B₀ t₀) {i : Nat} {op : MemOp} {a : Touch} (hi : t₀[i]? = some op) (ha : op.act.touch? = some a) (hm : a.loc.isMemory = true) :
    Knows t 0 i ∨ (T.Shun a.loc ∧ a.kind = .atomic) := by
  obtain ⟨U, rfl⟩ := h.ext
  exact (H.past.known i a (by rw [touchAt_of hi]; exact ha) hm).imp (·.app U) id

theorem RT.late_app (h : RT T t₀ j t K) (hu : ∀ op ∈ u, LateOp T j op) : ∀ i op, t₀.size ≤ i → (t ++ u)[i]? = some op → LateOp T j op := by
  intro i op hi ho
  rcases getElem?_append_cases ho with ⟨_, ho'⟩ | ⟨_, hou⟩
  · exact h.late i op hi ho'
  · exact hu op hou
theorem RT.ext_app (h : RT T t₀ j t K) : ∃ U, t ++ u = t₀ ++ U := by
  obtain ⟨U, rfl⟩ := h.ext
  exact ⟨U ++ u, by simp⟩

/-- Operations that touch nothing. -/
theorem RT.appMute (h : RT T t₀ j t K) (hK : ∀ i, K i → K' i) (hu : ∀ op ∈ u, LateOp T j op) (hn : ∀ op ∈ u, op.act.touch? = none) : RT T t₀ j (t ++ u) K' := by
  refine ⟨h.ext_app, fun said => noRace_appendMute (h.clean said) hn, h.late_app hu, fun i a ha hw q hq hs => ?_, fun i a ha hs => ?_⟩
  · obtain ⟨x, hx, hxa⟩ := touch_of ha
    rcases getElem?_append_cases hx with ⟨_, hx'⟩ | ⟨_, hxu⟩
    · exact (h.wrote i a (by rw [touchAt_of hx']; exact hxa) hw q hq hs).app u
    · rw [hn x hxu] at hxa; cases hxa
  · obtain ⟨x, hx, hxa⟩ := touch_of ha
    rcases getElem?_append_cases hx with ⟨_, hx'⟩ | ⟨_, hxu⟩
    · exact hK i (h.sum i a (by rw [touchAt_of hx']; exact hxa) hs)
    · rw [hn x hxu] at hxa; cases hxa

/-- The starter's own operations. -/
theorem RT.app0 (h : RT T t₀ j t K) (H : T0 T B₀ t₀) (O : TOk T) (hK : ∀ i, K i → K' i) (hg : ∀ op ∈ u, op.g = 0) (hu : ∀ op ∈ u, LateOp T j op)
    (hw : ∀ op ∈ u, ∀ x, op.act.touch? = some x → x.write = true → ∀ q, q < j → ¬ T.Still q x.loc) : RT T t₀ j (t ++ u) K' := by
  have hpos := O.pos
  refine ⟨h.ext_app, fun said => noRace_append (h.clean said) hg fun i a ha op hop b hb hc => ?_, h.late_app hu, fun i a ha hwr q hq hs => ?_, fun i a ha hs => ?_⟩
  · rcases (hu op hop).touch b hb with ⟨_, ⟨hsh, hk⟩ | ⟨hn, hsum, hshun⟩⟩ | ⟨hge, _⟩
    · exact (h.quiet H O).known hsh hk (fun _ => rfl) i a ha hc
    · obtain ⟨x, hx, hxa⟩ := touch_of ha
      rcases h.cases hx with ⟨_, hx'⟩ | ⟨_, hl⟩
      · rcases h.old H hx' hxa hc.2.1 with hk | ⟨hs, hka⟩
        · exact hk
        · have hkb := hshun (hc.1 ▸ hs)
          obtain ⟨_, _, _, hcase⟩ := hc
          rw [hka] at hcase
          rcases hcase with e | e | ⟨_, e, _⟩
          · cases e
          · exact absurd e hkb
          · cases e
      · rcases hl.touch a hxa with ⟨hx0, _⟩ | ⟨_, ⟨hsh, _⟩ | ⟨_, e | ⟨hrd, hst⟩⟩⟩
        · have := knows_own hx
          rwa [hx0] at this
        · exact absurd (hc.1 ▸ hsh) hn
        · exact absurd (hc.1 ▸ e) hsum
        · rcases hc.2.2.1 with e | e
          · rw [hrd] at e; cases e
          · have hgs := hl.gs
            exact absurd (hc.1 ▸ hst) (hw op hop b hb e (x.g - T.m0) (by omega))
    · rw [hg op hop] at hge; omega
  · obtain ⟨x, hx, hxa⟩ := touch_of ha
    rcases getElem?_append_cases hx with ⟨_, hx'⟩ | ⟨_, hxu⟩
    · exact (h.wrote i a (by rw [touchAt_of hx']; exact hxa) hwr q hq hs).app u
    · exact absurd hs (hw x hxu a hxa hwr q hq)
  · obtain ⟨x, hx, hxa⟩ := touch_of ha
    rcases getElem?_append_cases hx with ⟨_, hx'⟩ | ⟨_, hxu⟩
    · exact hK i (h.sum i a (by rw [touchAt_of hx']; exact hxa) hs)
    · rcases (hu x hxu).touch a hxa with ⟨_, ⟨hsh, _⟩ | ⟨_, hsum, _⟩⟩ | ⟨hge, _⟩
      · exact absurd (hs ▸ hsh) O.sumSh
      · exact absurd hs hsum
      · rw [hg x hxu] at hge; omega

/-- A worker's operations: it touches the handed cell only if it knows every touch of it. -/
theorem RT.appW (h : RT T t₀ j t K) (H : T0 T B₀ t₀) (O : TOk T) {q : Nat} (hq : q < j) (hg : ∀ op ∈ u, op.g = T.m0 + q) (hu : ∀ op ∈ u, LateOp T j op) (hK : ∀ i, K i → K' i)
    (hs : ∀ op ∈ u, ∀ x, op.act.touch? = some x → x.loc = T.sumL → (∀ i, K i → Knows t (T.m0 + q) i) ∧ ∀ i, Knows (t ++ u) (T.m0 + q) i → K' i) : RT T t₀ j (t ++ u) K' := by
  have hpos := O.pos
  refine ⟨h.ext_app, fun said => noRace_append (h.clean said) hg fun i a ha op hop b hb hc => ?_, h.late_app hu, fun i a ha hwr q' hq' hst => ?_, fun i a ha hsl => ?_⟩
  · rcases (hu op hop).touch b hb with ⟨h0, _⟩ | ⟨_, ⟨hsh, hk⟩ | ⟨hk, e | ⟨hrd, hst⟩⟩⟩
    · rw [hg op hop] at h0; omega
    · exact (h.quiet H O).known hsh (by rw [hk]; simp) (fun e => by rw [hk] at e; cases e) i a ha hc
    · exact (hs op hop b hb e).1 i (h.sum i a ha (hc.1.trans e))
    · rw [hg op hop, Nat.add_sub_cancel_left] at hst
      rcases hc.2.2.1 with e | e
      · exact h.wrote i a ha e q hq (hc.1 ▸ hst)
      · rw [hrd] at e; cases e
  · obtain ⟨x, hx, hxa⟩ := touch_of ha
    rcases getElem?_append_cases hx with ⟨_, hx'⟩ | ⟨_, hxu⟩
    · exact (h.wrote i a (by rw [touchAt_of hx']; exact hxa) hwr q' hq' hst).app u
    · rcases (hu x hxu).touch a hxa with ⟨h0, _⟩ | ⟨_, ⟨hsh, _⟩ | ⟨_, e | ⟨hrd, _⟩⟩⟩
      · rw [hg x hxu] at h0; omega
      · exact absurd hsh (O.stSh _ _ hst)
      · exact absurd e (O.stSum _ _ hst)
      · rw [hrd] at hwr; cases hwr
  · obtain ⟨x, hx, hxa⟩ := touch_of ha
    rcases getElem?_append_cases hx with ⟨_, hx'⟩ | ⟨_, hxu⟩
    · exact hK i (h.sum i a (by rw [touchAt_of hx']; exact hxa) hsl)
    · refine (hs x hxu a hxa hsl).2 i ?_
      have := knows_own hx
      rwa [hg x hxu] at this

/-- A go STATEMENT: worker j is started. -/
theorem RT.fork (h : RT T t₀ j t K) (H : T0 T B₀ t₀) (O : TOk T) (hK : ∀ i, K i → K' i) {x y : MemOp} (hx : x.g = 0 ∧ x.act = .go (T.m0 + j)) (hy : y.g = T.m0 + j ∧ y.act = .start) (h0 : Deaf t 0 = 0) (hk : Deaf t (T.m0 + j) = 0) :
    RT T t₀ (j + 1) (t ++ #[x, y]) K' := by
  have hpos := O.pos
  have hm : ∀ op ∈ #[x, y], op = x ∨ op = y := by intro op hop; simpa using hop
  have hn : ∀ op ∈ #[x, y], op.act.touch? = none := by
    intro op hop
    rcases hm op hop with rfl | rfl
    · rw [hx.2]; rfl
    · rw [hy.2]; rfl
  have hl : ∀ op ∈ #[x, y], LateOp T (j + 1) op := by
    intro op hop
    have hn' := hn op hop
    rcases hm op hop with rfl | rfl
    · exact ⟨by rw [hx.2]; trivial, by rw [hx.1]; omega, by rw [hx.2]; simp, fun a ha => by rw [hn'] at ha; cases ha⟩
    · exact ⟨by rw [hy.2]; trivial, by rw [hy.1]; omega, by rw [hy.2]; simp, fun a ha => by rw [hn'] at ha; cases ha⟩
  have h' : RT T t₀ j t K := h
  refine ⟨h.ext_app, fun said => noRace_appendMute (h.clean said) hn, fun i op hi ho => ?_, fun i a ha hw q hq hs => ?_, fun i a ha hs => ?_⟩
  · rcases getElem?_append_cases ho with ⟨_, ho'⟩ | ⟨_, hou⟩
    · exact (h.late i op hi ho').mono (Nat.le_succ j)
    · exact hl op hou
  · obtain ⟨z, hz, hza⟩ := touch_of ha
    rcases getElem?_append_cases hz with ⟨_, hz'⟩ | ⟨_, hzu⟩
    · rcases Nat.lt_or_ge q j with hlt | hge
      · exact (h.wrote i a (by rw [touchAt_of hz']; exact hza) hw q hlt hs).app _
      · obtain rfl : q = j := by omega
        refine fork_knows hx hy h0 hk ?_
        rcases h.cases hz' with ⟨_, hz0⟩ | ⟨_, hlz⟩
        · exact (h.old H hz0 hza (O.stMem _ _ hs)).elim id fun e => absurd e.1 (O.stShun _ _ hs)
        · rcases hlz.touch a hza with ⟨hz0, _⟩ | ⟨_, ⟨hsh, _⟩ | ⟨_, e | ⟨hrd, _⟩⟩⟩
          · have := knows_own hz'
            rwa [hz0] at this
          · exact absurd hsh (O.stSh _ _ hs)
          · exact absurd e (O.stSum _ _ hs)
          · rw [hrd] at hw; cases hw
    · rw [hn z hzu] at hza; cases hza
  · obtain ⟨z, hz, hza⟩ := touch_of ha
    rcases getElem?_append_cases hz with ⟨_, hz'⟩ | ⟨_, hzu⟩
    · exact hK i (h.sum i a (by rw [touchAt_of hz']; exact hza) hs)
    · rw [hn z hzu] at hza; cases hza

/-- THE BEGINNING. -/
theorem RT.init (H : T0 T B₀ t₀) (O : TOk T) : RT T t₀ 0 t₀ (fun i => Knows t₀ 0 i) :=
  ⟨⟨#[], by simp⟩, H.past.clean, fun i op hi ho => absurd (lt_size_of_getElem? ho) (by omega), fun i a _ _ q hq => by omega,
    fun i a ha hs => (H.past.known i a ha (hs ▸ O.sumMem)).elim id fun e => absurd (hs ▸ e.1) O.sumShun⟩

/-- THE JOIN: the starter has said 'acquire', hearing, behind every worker's release: all is known to it. -/
theorem RT.join (h : RT T t₀ j t K) (H : T0 T B₀ t₀) (O : TOk T) (h0 : Deaf t 0 = 0) {q : Nat} (hq : t.act? q = some (.mark (.acquire (stA T.Wg)))) (hqg : t.g? q = some 0) (hqh : t.heard q)
    (hr : ∀ i, i < j → ∃ r, RelBy (stA T.Wg) t (T.m0 + i) r ∧ r < q) : Past (fun l => T.Shun l ∨ ShN T.Wg l) T.B t := by
  have hpos := O.pos
  -- what a worker did at or ahead of its release is known
  have key : ∀ (i : Nat) (op : MemOp), t[i]? = some op → T.m0 ≤ op.g → op.g < T.m0 + j → (∃ r, RelBy (stA T.Wg) t op.g r ∧ r < q ∧ (i ≤ r → HappensBefore t i q)) := by
    intro i op hi h1 h2
    obtain ⟨r, hrb, hrq⟩ := hr (op.g - T.m0) (by omega)
    rw [show T.m0 + (op.g - T.m0) = op.g by omega] at hrb
    have edge : HappensBefore t r q := .single (.inr ⟨.marked hrq (.inr hrb.act) hq (fun k _ _ => h.norel H k), hrb.heard, hqh⟩)
    refine ⟨r, hrb, hrq, fun hle => ?_⟩
    rcases Nat.lt_or_ge i r with hlt | hge
    · exact .trans (.single (.inl ⟨hlt, op.g, by simp [Trace.g?, hi], hrb.g⟩)) edge
    · obtain rfl : i = r := by omega
      exact edge
  have hqk : ∀ i, HappensBefore t i q → Knows t 0 i := fun i hb => by
    obtain ⟨z, hz, hzg⟩ := Option.map_eq_some_iff.1 hqg
    exact ⟨q, z, hz, hzg, .inr hb⟩
  refine ⟨h.clean, fun i a ha hm => ?_, fun i g hg hne hc => ?_, h0, fun op hop => ?_⟩
  · obtain ⟨x, hx, hxa⟩ := touch_of ha
    rcases h.cases hx with ⟨_, hx'⟩ | ⟨_, hl⟩
    · exact (h.old H hx' hxa hm).imp id fun e => ⟨.inl e.1, e.2⟩
    · rcases hl.touch a hxa with ⟨hx0, _⟩ | ⟨hge, hk⟩
      · have := knows_own hx
        rw [hx0] at this
        exact .inl this
      · obtain ⟨r, hrb, _, hle⟩ := key i x hx hge hl.gs
        rcases Nat.lt_or_ge r i with hlt | hge'
        · have hnc := hrb.after i hlt (by simp [Trace.g?, hx])
          rcases hk with ⟨hsh, hka⟩ | ⟨hkp, _⟩
          · exact .inr ⟨.inr hsh, hka⟩
          · exact absurd ⟨a, ha, hm, .inl (by rw [hkp]; simp)⟩ hnc
        · exact .inl (hqk i (hle hge'))
  · obtain ⟨x, hx, hxm, hxk⟩ := id hc
    obtain ⟨op, ho, hox⟩ := touch_of hx
    have hog : op.g = g := by simpa [Trace.g?, ho] using hg
    rcases h.cases ho with ⟨hlt, _⟩ | ⟨_, hl⟩
    · obtain ⟨U, rfl⟩ := h.ext
      obtain ⟨p, hp, hb⟩ := H.past.over i g (by rw [← g?_old (u := U) hlt]; exact hg) hne ((counts_old hlt).1 hc)
      refine ⟨p, ?_, hb_app U hb⟩
      have hpl : p < t₀.size := by
        obtain ⟨z, hz, _⟩ := Option.map_eq_some_iff.1 hp
        exact lt_size_of_getElem? hz
      rw [g?_old hpl]; exact hp
    · rcases hl.touch x hox with ⟨hx0, _⟩ | ⟨hge, _⟩
      · exact absurd (hog ▸ hx0) hne
      · obtain ⟨r, hrb, _, hle⟩ := key i op ho hge hl.gs
        rcases Nat.lt_or_ge r i with hlt | hge'
        · exact absurd hc (hrb.after i hlt (by simp [Trace.g?, ho]))
        · exact ⟨q, hqg, hle hge'⟩
  · obtain ⟨i, hi, rfl⟩ := Array.mem_iff_getElem.1 hop
    rcases h.cases (Array.getElem?_eq_getElem hi) with ⟨_, hi'⟩ | ⟨_, hl⟩
    · exact MemAct.low_mono H.le (H.past.seen _ (mem_of_getElem? hi'))
    · exact hl.low
end

/-! ### who knows the handed cell's touches -/

/-- Pre: the starter. Held: goroutine g. Flying: whatever was done lies before the k-th send on c. -/
inductive Flow where
  | pre
  | held (g : Nat)
  | fly (c k : Nat)

def SumK (t : Trace) : Flow → Nat → Prop
  | .pre, i => Knows t 0 i
  | .held g, i => Knows t g i
  | .fly c k, i => ∃ p, Before t i p ∧ t.act? p = some (.send c k) ∧ t.heard p

theorem SumK.app {t u : Trace} {f : Flow} {i : Nat} (h : SumK t f i) : SumK (t ++ u) f i := by
  cases f with
  | pre => exact Knows.app u h
  | held g => exact Knows.app u h
  | fly c k =>
    obtain ⟨p, hb, ha, hh⟩ := h
    have hp := lt_of_act? ha
    exact ⟨p, hb.app u, by rw [act?_old hp]; exact ha, (heard_old hp).2 hh⟩

section
variable {t : Trace} {g j : Nat}

/-- Who holds it sends it off into a buffer. -/
theorem sumK_send {i : Nat} (h : Knows t g i) (hd : Deaf t g = 0) (fn : FuncId) (pos : String) (c k : Nat) (v : Trace) (hv : ∃ z, v = #[{ g := g, fn := fn, pos := pos, act := .send c k }] ++ z) : SumK (t ++ v) (.fly c k) i := by
  obtain ⟨z, rfl⟩ := hv
  have e0 : (t ++ (#[{ g := g, fn := fn, pos := pos, act := .send c k }] ++ z))[t.size]? = some { g := g, fn := fn, pos := pos, act := .send c k } := by
    rw [← Array.append_assoc, getElem?_append_old (by simp)]; simp
  exact ⟨t.size, .inr (h.hb_new (Nat.le_refl _) e0 rfl), act?_of e0, ⟨g, g?_of e0, by rw [deaf_old (Nat.le_refl _)]; exact hd⟩⟩

/-- Whoever is to have it takes it out of the buffer. -/
theorem sumK_recv {c k cap i : Nat} (h : SumK t (.fly c k) i) (hd : Deaf t j = 0) (fn : FuncId) (pos : String) :
    SumK (t ++ #[{ g := j, fn := fn, pos := pos, act := .recv c k cap }, { g := j, fn := fn, pos := pos, act := .recvDone c k }]) (.held j) i := by
  obtain ⟨p, hb, ha, hh⟩ := h
  generalize hu : (#[{ g := j, fn := fn, pos := pos, act := .recv c k cap }, { g := j, fn := fn, pos := pos, act := .recvDone c k }] : Trace) = u
  have hp := lt_of_act? ha
  have e1 : (t ++ u)[t.size + 1]? = some { g := j, fn := fn, pos := pos, act := .recvDone c k } := by subst hu; simp
  have hq : ∀ op ∈ u, ∀ d, deafStep j d op = d := by
    intro op hop d
    subst hu
    simp only [List.mem_toArray, List.mem_cons, List.not_mem_nil, or_false] at hop
    rcases hop with rfl | rfl <;> rfl
  have edge : HappensBefore (t ++ u) p (t.size + 1) :=
    .single (.inr ⟨.handOver (by rw [act?_old hp]; exact ha) (act?_of e1), (heard_old hp).2 hh, ⟨j, g?_of e1, by rw [deaf_quiet hq 1 (by subst hu; simp)]; exact hd⟩⟩)
  exact ⟨t.size + 1, _, e1, rfl, .inr ((hb.app u).hb edge)⟩

/-- A send that is met. -/
theorem sumK_met {i : Nat} (h : Knows t g i) (hd : Deaf t g = 0) (hd' : Deaf t j = 0) (fh : FuncId) (ph : String) (fj : FuncId) (pj : String) (c k cap : Nat) : SumK (t ++ met g j fh ph fj pj c k cap) (.held j) i := by
  have e0 : (t ++ met g j fh ph fj pj c k cap)[t.size]? = some { g := g, fn := fh, pos := ph, act := .send c k } := by simp [met]
  have e3 : (t ++ met g j fh ph fj pj c k cap)[t.size + 3]? = some { g := j, fn := fj, pos := pj, act := .recvDone c k } := by simp [met]
  have edge : HappensBefore (t ++ met g j fh ph fj pj c k cap) t.size (t.size + 3) :=
    .single (.inr ⟨.handOver (act?_of e0) (act?_of e3), ⟨g, g?_of e0, by rw [deaf_old (Nat.le_refl _)]; exact hd⟩, ⟨j, g?_of e3, by rw [deaf_quiet (met_quiet _ _ _ _ _ _ _ _ _ j) 3 (by simp [met])]; exact hd'⟩⟩)
  exact ⟨t.size + 3, _, e3, rfl, .inr ((h.hb_new (Nat.le_refl _) e0 rfl).trans edge)⟩
end

end Go.Proofs.Ytejedbknpjffkaa.Rl
