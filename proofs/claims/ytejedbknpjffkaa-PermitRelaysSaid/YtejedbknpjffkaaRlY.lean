/- THE RELAY: every step of the starter's; the run, on every tape, from the loop that starts the workers to behind the join. -/
import Derived.Test.YtejedbknpjffkaaRlX
namespace Go.Proofs.Ytejedbknpjffkaa.Rl
open Go Go.Conc
open Go.ConcN (ShN WgLive RelBy RelBy.appOther RelBy.appNot RelBy.new RelBy.book upd upd_same upd_ne sumTo sumTo_upd sumTo_congr sumTo_le le_sumTo get_map_set get_map_set_same Deaf_still Deaf_absent bk_cell deafBehind_idle norel_of norel_of_Bk sumTo_upd_out)
open Go.ConcR (KK wgBlock WgAt stA smA rd wr mk Bk bk_of_mute ofEvent_loc_mark ofEvent_cell ofEvent_mk loc_of_ofEvent g_of_ofEvents deafBehind_cons deafBehind_one)

section
variable {L : Lay} {Anch Back : Goroutine → World → Prop} {t₀ t : Trace} {B₀ j s : Nat} {f : Flow} {gs : Array Goroutine} {w : World} {sl : Option (Nat × Nat)} {D : Nat → WD} {tag : Tag} {f0 d0 : Nat} {a : Goroutine} {st sm : Int}

theorem Lt2.trans {a b c : Nat × Nat} (h1 : Lt2 a b) (h2 : Lt2 b c) : Lt2 a c := by
  obtain ⟨a1, a2⟩ := a
  obtain ⟨b1, b2⟩ := b
  obtain ⟨c1, c2⟩ := c
  unfold Lt2 at *
  simp only [Prod.lex_def] at *
  omega

/-- All have ended. -/
theorem InvAt.quits (I : InvAt L Anch Back t₀ gs w j s f D tag f0 d0 a st sm t) (hq : AllQuit (L.m0 + j) D) : ∀ i g, 0 < i → gs[i]? = some g → QuitsD L.P (D i).fuel (D i).deaf g := by
  intro i g h0 hg
  have hlt : i < L.m0 + j := by have := (Array.getElem?_eq_some_iff.1 hg).1; rw [I.com.size] at this; exact this
  rcases Nat.lt_or_ge i L.m0 with ho | hw
  · obtain ⟨g', hg', _, hQ⟩ := I.com.old i h0 ho
    rw [hg] at hg'; cases hg'
    exact hQ
  · obtain ⟨q, rfl⟩ : ∃ q, i = L.m0 + q := ⟨i - L.m0, by omega⟩
    obtain ⟨g', hg', hW⟩ := I.com.wk q (by omega)
    rw [hg] at hg'; cases hg'
    have h1 := hq _ hlt
    rw [h1] at hW
    generalize hs : 1 = x at hW
    generalize (D (L.m0 + q)).fuel = x2 at hW
    generalize (D (L.m0 + q)).deaf = x3 at hW
    cases hW with
    | quit h => exact h
    | _ => omega

set_option maxHeartbeats 1600000 in
theorem stepMain (G : Geo L) (H : T0 L.tl B₀ t₀) (hAr : ∀ g w, Anch g w → g.status = .running) (hAn : ∀ g w, Anch g w → ∃ m, Goes L.P true (RM L) (DM L L.n) (AtW1 L Anch Back) m g w)
    (I : InvAt L Anch Back t₀ gs w j s f D tag f0 d0 a st sm t) (hrun : a.status = .running) :
    ∃ m₁ ops, runT L.P (crowd gs w sl) 0 = (.next m₁, ops) ∧ (Exit L Back m₁ (t ++ ops) ∨ ∃ μ', Lt2 μ' (mu L (L.m0 + j) D tag f0) ∧ Inv L Anch Back t₀ μ' m₁ (t ++ ops)) := by
  have O := tok G
  have hm0 := G.m0
  have hn2 := G.n2
  have hVj := I.Vj
  have hbd := I.cs.bound
  have hwg := I.wg
  have hmode := I.mode
  have hWH := G.hWg
  have hSH := G.hSm
  have lift : (∃ m₁ ops, runT L.P (crowd gs w sl) 0 = (.next m₁, ops) ∧ ∃ μ', Lt2 μ' (mu L (L.m0 + j) D tag f0) ∧ Inv L Anch Back t₀ μ' m₁ (t ++ ops)) →
      ∃ m₁ ops, runT L.P (crowd gs w sl) 0 = (.next m₁, ops) ∧ (Exit L Back m₁ (t ++ ops) ∨ ∃ μ', Lt2 μ' (mu L (L.m0 + j) D tag f0) ∧ Inv L Anch Back t₀ μ' m₁ (t ++ ops)) :=
    fun ⟨m₁, ops, h1, h2⟩ => ⟨m₁, ops, h1, .inr h2⟩
  -- an idle step of the starter's
  have idleM : ∀ {jj : Nat} {a' : Goroutine} {w' : World} {es : Array Event} {m' : Nat}, jj = j → stepG L.P true a w = .go a' w' es → DM L jj w w' es → CS L Anch Back tag j m' d0 a' w' → m' < f0 →
      ∃ m₁ ops, runT L.P (crowd gs w sl) 0 = (.next m₁, ops) ∧ ∃ μ', Lt2 μ' (mu L (L.m0 + j) D tag f0) ∧ Inv L Anch Back t₀ μ' m₁ (t ++ ops) := by
    rintro jj a' w' es m' rfl hgo ⟨hlow, hev⟩ hcs' hm
    have hl := late_M (fn := a.frame.fn) (pos := a.frame.place) G hev
    have hdb : deafBehind d0 es = d0 := deafBehind_idle (fun e he => ⟨(hev e he).2.1, (hev e he).2.2.1⟩) d0
    exact goM G I hgo (fun q hq => .of_low G hq (by have := I.com.jn; omega) hlow) (hlow _ (by omega)) (fun q hq => hlow _ (by have := G.hch q hq; omega))
      (I.com.tr.app0 H O (fun _ => SumK.app) (fun op hop => (hl op hop).1) (fun op hop => (hl op hop).2.1) (fun op hop => (hl op hop).2.2)) (by rw [hdb]; exact hcs') (hwg.of_block (hlow _ (by omega))) hmode Iff.rfl (.inr ⟨rfl, hm⟩)
  -- a step of the library's bookkeeping
  have book : ∀ {a' : Goroutine} {w' : World} {es : Array Event} {tag' : Tag} {m' : Nat} {st' sm' : Int}, stepG L.P true a w = .go a' w' es → Aside L.Wg w w' → WgAt L.ty L.Wg w' st' sm' → (∀ e ∈ es, Bk L.Wg e) →
      CS L Anch Back tag' j m' (deafBehind d0 es) a' w' → Mode (L.m0 + j) D tag' st' sm' → (isPre tag' ↔ isPre tag) → (phi L (Vc (L.m0 + j) D) tag' < phi L (Vc (L.m0 + j) D) tag ∨ (phi L (Vc (L.m0 + j) D) tag' = phi L (Vc (L.m0 + j) D) tag ∧ m' < f0)) →
      ∃ m₁ ops, runT L.P (crowd gs w sl) 0 = (.next m₁, ops) ∧ ∃ μ', Lt2 μ' (mu L (L.m0 + j) D tag f0) ∧ Inv L Anch Back t₀ μ' m₁ (t ++ ops) := by
    intro a' w' es tag' m' st' sm' hgo hAs hwg' hbk hcs' hmode' hp hlt
    have hl : ∀ op ∈ MemOp.ofEvents 0 a.frame.fn a.frame.place es, op.g = 0 ∧ LateOp L.tl j op ∧ ∀ x, op.act.touch? = some x → x.write = true → ∀ q, q < j → ¬ L.tl.Still q x.loc := late_Bk0 G hbk
    exact goM G I hgo (fun q hq => .of_aside hAs (fun hk => (G.kbS q _ hk).1 rfl) fun _ => ⟨_, _, hwg'⟩) (hAs.block _ (Ne.symm G.hWS)) (chan_aside G hAs (.inl rfl))
      (I.com.tr.app0 H O (fun _ => SumK.app) (fun op hop => (hl op hop).1) (fun op hop => (hl op hop).2.1) (fun op hop => (hl op hop).2.2)) hcs' hwg' hmode' hp hlt
  have bkD : ∀ e ∈ (#[mk .disable] : Array Event), Bk L.Wg e := by intro e he; simp at he; subst he; exact .inl rfl
  have bkE : ∀ e ∈ (#[mk .enable] : Array Event), Bk L.Wg e := by intro e he; simp at he; subst he; exact .inr (.inl rfl)
  have bkR : ∀ e ∈ (#[rd (stA L.Wg)] : Array Event), Bk L.Wg e := by intro e he; simp at he; subst he; exact bk_cell _ _ rfl
  have bkRW : ∀ e ∈ (#[rd (stA L.Wg), wr (stA L.Wg)] : Array Event), Bk L.Wg e := by intro e he; simp at he; rcases he with rfl | rfl <;> exact bk_cell _ _ rfl
  have bkS : ∀ e ∈ semEvents (smA L.Wg), Bk L.Wg e := by
    intro e he
    simp [semEvents] at he
    rcases he with rfl | rfl | rfl | rfl
    · exact .inl rfl
    · exact bk_cell _ _ rfl
    · exact bk_cell _ _ rfl
    · exact .inr (.inl rfl)
  -- the group's state, ahead of registering
  have open0 : isOpen tag → pend tag = 0 → WgAt L.ty L.Wg w ((Vc (L.m0 + j) D : Nat) * KK) 0 ∧ OpenSt (L.m0 + j) D ∧ (∀ vs, tag = .w2 vs → Vc (L.m0 + j) D ≤ vs ∧ 1 ≤ vs) := fun ho hp => by
    generalize htg : tag = tg at hmode ho hp
    cases hmode with
    | opn h1 h2 h3 => rw [hp] at hwg; exact ⟨by simpa using hwg, h2, fun vs e => h3 vs e⟩
    | reg h1 _ _ => cases tg <;> first | exact ho.elim | exact h1.elim
    | last z h1 _ _ _ => cases tg <;> first | exact ho.elim | exact h1.elim
    | sema _ => exact ho.elim
    | fin h1 _ => cases tg <;> first | exact ho.elim | exact h1.elim
  -- the load in Wait's loop
  have w1step : ∀ {m : Nat} (f1 : Nat), (tag = .w1 ∨ tag = .anch) → j = L.n → d0 = 1 → AtW1 L Anch Back a w →
      ∃ m₁ ops, runT L.P (crowd gs w sl) 0 = (.next m₁, ops) ∧ ∃ μ', Lt2 μ' (mu L (L.m0 + j) D tag f0) ∧ Inv L Anch Back t₀ μ' m₁ (t ++ ops) := by
    intro _ f1 ht hjn hd hs
    obtain ⟨_, hall⟩ := hs
    obtain ⟨hw0, hO, _⟩ := open0 (by rcases ht with e | e <;> rw [e] <;> trivial) (by rcases ht with e | e <;> rw [e] <;> rfl)
    obtain ⟨a', hgo, hz, hnz⟩ := hall (Vc (L.m0 + j) D) (by omega) hw0
    have hpr : isPre tag ↔ False := by rcases ht with e | e <;> rw [e] <;> simp [isPre]
    by_cases hv : Vc (L.m0 + j) D = 0
    · obtain ⟨m, hG⟩ := hz hv
      refine book hgo (.refl _ w) (by rw [hv] at hw0; simpa using hw0) bkR (tag' := .ke) (m' := m) (by rw [hd, hjn]; exact .ke hG) (.fin trivial fun b hb => ?_) (by rw [hpr]; simp [isPre]) (.inl ?_)
      · have := hO b hb
        have hc : cnt (D b) ≤ Vc (L.m0 + j) D := le_sumTo (f := fun x => cnt (D x)) hb
        rw [hv] at hc
        simp only [cnt] at hc
        split at hc <;> omega
      · rcases ht with e | e <;> rw [e] <;> simp only [phi] <;> omega
    · obtain ⟨m, hG⟩ := hnz hv
      refine book hgo (.refl _ w) hwg bkR (tag' := .w2 (Vc (L.m0 + j) D)) (m' := m) (by have h1 : CS L Anch Back (.w2 (Vc (L.m0 + j) D)) L.n m 1 a' w := .w2 hG
                                                                                        rw [hd]
                                                                                        generalize Vc (L.m0 + j) D = v at h1 ⊢
                                                                                        rw [hjn]; exact h1) ?_ (by rw [hpr]; simp [isPre]) (.inl ?_)
      · have e := (WgAt.unique hwg hw0)
        rw [e.1, e.2]
        have := Mode.opn (M := L.m0 + j) (D := D) (tag := .w2 (Vc (L.m0 + j) D)) trivial hO (fun vs e => by cases e; omega)
        simpa [pend] using this
      · rcases ht with e | e <;> rw [e] <;> simp only [phi] <;> omega
  have key : ∀ tg jj dd ff, CS L Anch Back tg jj ff dd a w → tag = tg → j = jj → d0 = dd → f0 = ff →
      ∃ m₁ ops, runT L.P (crowd gs w sl) 0 = (.next m₁, ops) ∧ (Exit L Back m₁ (t ++ ops) ∨ ∃ μ', Lt2 μ' (mu L (L.m0 + j) D tag f0) ∧ Inv L Anch Back t₀ μ' m₁ (t ++ ops)) := by
   intro tg jj dd ff hcs htg hjj hdd hff
   cases hcs with
   | skd hr h =>
     rename_i r
     refine lift ?_
     rcases Goes.cases h with hstop | ⟨m', rfl, hstep⟩
     · obtain ⟨_, a', hgo, m, hG⟩ := hstop w (.refl w)
       refine book hgo (.refl _ w) hwg bkD (tag' := .sp r 4) (m' := m) (by rw [hjj, hdd]; exact .sa1 hr hG) ?_ (by rw [htg]; simp [isPre]) (.inl (by rw [htg]; simp only [phi]; omega))
       subst htg
       obtain ⟨hw0, hO, _⟩ := open0 trivial rfl
       have e := (WgAt.unique hwg hw0)
       rw [e.1, e.2]
       have := Mode.opn (M := L.m0 + j) (D := D) (tag := .sp r 4) trivial hO (by simp)
       simpa [pend] using this
     · obtain ⟨a', w', es, hgo, hD, hG⟩ := hstep w (.refl w)
       exact idleM hjj.symm hgo hD (by rw [htg, hjj, hdd]; exact .skd hr hG) (by omega)
   | sa1 hr h =>
     rename_i r
     refine lift ?_
     rcases Goes.cases h with hstop | ⟨m', rfl, hstep⟩
     · obtain ⟨_, hall⟩ := hstop w (.refl w)
       subst htg
       obtain ⟨hw0, hO, _⟩ := open0 trivial rfl
       obtain ⟨a', hgo, m, hG⟩ := hall (Vc (L.m0 + j) D) (by omega) hw0
       have hw' := hw0.setSt (((Vc (L.m0 + j) D : Nat) : Int) * KK + KK)
       have hne : (((Vc (L.m0 + j) D : Nat) : Int) + 1) * KK = ((Vc (L.m0 + j) D : Nat) : Int) * KK + KK := by rw [Int.add_mul, Int.one_mul]
       rw [hne] at hgo hG
       have hAs := aside_setCell w (stA L.Wg) (.int .u64 (((Vc (L.m0 + j) D : Nat) : Int) * KK + KK))
       generalize w.setCell (stA L.Wg) (.int .u64 (((Vc (L.m0 + j) D : Nat) : Int) * KK + KK)) = w' at hw' hgo hG hAs
       refine book hgo hAs hw' bkRW (tag' := .sp r 3) (m' := m) (by rw [hjj, hdd]; exact .ske hr hG) ?_ (by simp [isPre]) (.inl (by simp only [phi]; omega))
       have hv := Mode.opn (M := L.m0 + j) (D := D) (tag := .sp r 3) trivial hO (by simp)
       have hne' : ((Vc (L.m0 + j) D + pend (.sp r 3) : Nat) : Int) * KK = ((Vc (L.m0 + j) D : Nat) : Int) * KK + KK := by
         have e : (Vc (L.m0 + j) D + pend (.sp r 3) : Nat) = Vc (L.m0 + j) D + 1 := rfl
         rw [e, Int.natCast_add, Int.add_mul]; simp
       rw [hne'] at hv
       exact hv
     · obtain ⟨a', w', es, hgo, hD, hG⟩ := hstep w (.refl w)
       exact idleM hjj.symm hgo hD (by rw [htg, hjj, hdd]; exact .sa1 hr hG) (by omega)
   | ske hr h =>
     rename_i r
     refine lift ?_
     rcases Goes.cases h with hstop | ⟨m', rfl, hstep⟩
     · obtain ⟨_, a', hgo, m, hG⟩ := hstop w (.refl w)
       refine book hgo (.refl _ w) hwg bkE (tag' := .sp r 2) (m' := m) (by rw [hjj, hdd]; exact .sgo hr hG) ?_ (by rw [htg]; simp [isPre]) (.inl (by rw [htg]; simp only [phi]; omega))
       subst htg
       cases hmode with
       | opn h1 h2 h3 => exact Mode.opn (tag := .sp r 2) trivial h2 (by simp)
       | reg h1 _ _ => exact h1.elim
       | last z h1 _ _ _ => exact h1.elim
       | fin h1 _ => exact h1.elim
     · obtain ⟨a', w', es, hgo, hD, hG⟩ := hstep w (.refl w)
       exact idleM hjj.symm hgo hD (by rw [htg, hjj, hdd]; exact .ske hr hG) (by omega)
   | sgo hr h =>
     rename_i r
     refine lift ?_
     rcases Goes.cases h with hstop | ⟨m', rfl, hstep⟩
     · exact stepSpawn G H I hr htg hjj hdd (by rw [hjj]; exact hstop w (.refl w))
     · obtain ⟨a', w', es, hgo, hD, hG⟩ := hstep w (.refl w)
       exact idleM hjj.symm hgo hD (by rw [htg, hjj, hdd]; exact .sgo hr hG) (by omega)
   | give h =>
     refine lift ?_
     rcases Goes.cases h with hstop | ⟨m', rfl, hstep⟩
     · obtain ⟨_, g₂, hst0, m, hG⟩ := hstop w (.refl w)
       subst htg
       have hs0 : s = 0 := I.pre.1 trivial
       subst hs0
       have hfp : f = .pre := by
         rcases I.tk.form with ⟨e, _⟩ | ⟨h1, _⟩
         · exact e
         · omega
       have hn1 := G.n1
       have hz := I.com.z
       obtain ⟨f', gs', w', D', u, X⟩ := give (sl := sl) G hAr I I.main (.inl rfl) (by simpa [Nat.zero_mod] using hst0) hjj (fun it hk => by rw [hfp] at hk; exact hk) (by rw [I.com.deaf0, hdd]) (by rw [hfp]; rfl)
         (by simpa using I.tk.sum (fun g e => by rw [hfp] at e; cases e)) (fun q hq hh => by have := (I.tk.hold q hq).1 hh; rw [hfp] at this; cases this) (D 0) rfl (by rw [hz]; exact not_holds (by simp)) (by rw [hz]; exact not_parked (by simp)) (.inr rfl) rfl (fun _ => rfl) (fun h => absurd h (by omega))
         (fun q w₁ _ e _ => by omega)
       have tr : ∀ x y z, RM L x y → RM L y z → RM L x z := fun _ _ _ h1 h2 => h1.trans h2
       refine ⟨_, _, X.run, mu L (L.m0 + j) D' .kd m, ?_, gs', w', sl, j, 0 + 1, f', D', .kd, m, d0, _, st, sm, rfl, ⟨X.own, by rw [hjj, hdd]; exact .kd (Goes.rely tr hG X.rm), X.com, I.wg.of_block X.wg, ?_, X.tk, ?_⟩, rfl⟩
       · unfold mu
         rw [Vc_congr X.same]
         have := X.sum
         refine Prod.Lex.left _ _ ?_
         simp only [phi]
         omega
       · refine Mode.congr X.same ?_
         obtain ⟨hw0, hO, _⟩ := open0 trivial rfl
         have e := (WgAt.unique hwg hw0)
         rw [e.1, e.2]
         have := Mode.opn (M := L.m0 + j) (D := D) (tag := .kd) trivial hO (by simp)
         simpa [pend] using this
       · simp [isPre]
     · obtain ⟨a', w', es, hgo, hD, hG⟩ := hstep w (.refl w)
       exact idleM hjj.symm hgo hD (by rw [htg, hjj, hdd]; exact .give hG) (by omega)
   | kd h =>
     refine lift ?_
     rcases Goes.cases h with hstop | ⟨m', rfl, hstep⟩
     · obtain ⟨_, a', hgo, m, hG⟩ := hstop w (.refl w)
       refine book hgo (.refl _ w) hwg bkD (tag' := .anch) (m' := m) (by rw [hjj, hdd]; exact .anch hG) ?_ (by rw [htg]; simp [isPre]) (.inl (by rw [htg]; simp only [phi]; omega))
       subst htg
       obtain ⟨hw0, hO, _⟩ := open0 trivial rfl
       have e := (WgAt.unique hwg hw0)
       rw [e.1, e.2]
       have := Mode.opn (M := L.m0 + j) (D := D) (tag := .anch) trivial hO (by simp)
       simpa [pend] using this
     · obtain ⟨a', w', es, hgo, hD, hG⟩ := hstep w (.refl w)
       exact idleM hjj.symm hgo hD (by rw [htg, hjj, hdd]; exact .kd hG) (by omega)
   | anch h =>
     refine lift ?_
     rcases Goes.cases h with hstop | ⟨m', rfl, hstep⟩
     · obtain ⟨m, hG⟩ := hAn a w (hstop w (.refl w))
       rcases Goes.cases hG with hstop' | ⟨m', rfl, hstep⟩
       · exact w1step (m := 0) 0 (.inr htg) hjj hdd (hstop' w (.refl w))
       · obtain ⟨a', w', es, hgo, ⟨hlow, hev⟩, hG'⟩ := hstep w (.refl w)
         have hl := late_M (fn := a.frame.fn) (pos := a.frame.place) (j := j) G (by rw [hjj]; exact hev)
         have hdb : deafBehind d0 es = d0 := deafBehind_idle (fun e he => ⟨(hev e he).2.1, (hev e he).2.2.1⟩) d0
         subst htg
         obtain ⟨hw0, hO, _⟩ := open0 trivial rfl
         have e := (WgAt.unique hwg hw0)
         refine goM G I hgo (fun q hq => .of_low G hq (by have := I.com.jn; omega) (by rw [hjj]; exact hlow)) (hlow _ (by omega)) (fun q hq => hlow _ (by have := G.hch q hq; omega))
           (I.com.tr.app0 H O (fun _ => SumK.app) (fun op hop => (hl op hop).1) (fun op hop => (hl op hop).2.1) (fun op hop => (hl op hop).2.2)) (by rw [hdb, hjj, hdd]; exact .w1 hG') (hwg.of_block (hlow _ (by omega))) ?_ (by simp [isPre]) (.inl (by simp only [phi]; omega))
         rw [e.1, e.2]
         have := Mode.opn (M := L.m0 + j) (D := D) (tag := .w1) trivial hO (by simp)
         simpa [pend] using this
     · obtain ⟨a', w', es, hgo, hD, hG⟩ := hstep w (.refl w)
       exact idleM hjj.symm hgo hD (by rw [htg, hjj, hdd]; exact .anch hG) (by omega)
   | w1 h =>
     refine lift ?_
     rcases Goes.cases h with hstop | ⟨m', rfl, hstep⟩
     · exact w1step (m := 0) 0 (.inl htg) hjj hdd (hstop w (.refl w))
     · obtain ⟨a', w', es, hgo, hD, hG⟩ := hstep w (.refl w)
       exact idleM hjj.symm hgo hD (by rw [htg, hjj, hdd]; exact .w1 hG) (by omega)
   | @w2 vs m _ _ h =>
     refine lift ?_
     rcases Goes.cases h with hstop | ⟨m', rfl, hstep⟩
     · obtain ⟨_, hall⟩ := hstop w (.refl w)
       subst htg
       obtain ⟨hw0, hO, hvs⟩ := open0 trivial rfl
       have hvs := hvs vs rfl
       obtain ⟨hhit, hmiss⟩ := hall (Vc (L.m0 + j) D) (by omega) hw0
       by_cases hv : Vc (L.m0 + j) D = vs
       · obtain ⟨a', hgo, m, hG⟩ := hhit hv
         have hw' := hw0.setSt (((Vc (L.m0 + j) D : Nat) : Int) * KK + 1)
         have hAs := aside_setCell w (stA L.Wg) (.int .u64 (((Vc (L.m0 + j) D : Nat) : Int) * KK + 1))
         generalize w.setCell (stA L.Wg) (.int .u64 (((Vc (L.m0 + j) D : Nat) : Int) * KK + 1)) = w' at hw' hgo hG hAs
         exact book hgo hAs hw' bkRW (tag' := .w3) (m' := m + 1) (by rw [hjj, hdd]; exact .w3 hG) (.reg trivial hO (by omega)) (by simp [isPre]) (.inl (by simp only [phi]; omega))
       · obtain ⟨a', hgo, m, hG⟩ := hmiss hv
         refine book hgo (.refl _ w) hw0 bkR (tag' := .anch) (m' := m) (by rw [hjj, hdd]; exact .anch hG) ?_ (by simp [isPre]) (.inl (by simp only [phi]; omega))
         have := Mode.opn (M := L.m0 + j) (D := D) (tag := .anch) trivial hO (by simp)
         simpa [pend] using this
     · obtain ⟨a', w', es, hgo, hD, hG⟩ := hstep w (.refl w)
       exact idleM hjj.symm hgo hD (by rw [htg, hjj, hdd]; exact .w2 hG) (by omega)
   | w3 h =>
     refine lift ?_
     rcases Goes.cases h with hstop | ⟨m', rfl, hstep⟩
     · obtain ⟨_, _, hwait, hgo3⟩ := hstop w (.refl w)
       subst htg
       have blk : sm = 0 → Mode (L.m0 + j) D .blk st sm → ∃ m₁ ops, runT L.P (crowd gs w sl) 0 = (.next m₁, ops) ∧ ∃ μ', Lt2 μ' (mu L (L.m0 + j) D .w3 f0) ∧ Inv L Anch Back t₀ μ' m₁ (t ++ ops) := fun hz hm => by
         rw [hz] at hwg
         have hgo := hwait ⟨st, hwg⟩
         exact book hgo (.refl _ w) hwg (by simp) (tag' := .blk) (m' := 0) (by rw [hjj, hdd]; exact .blk fun w₁ h₁ => hstop w₁ h₁) (by rw [← hz]; exact hm) (by simp [isPre]) (.inr ⟨rfl, by omega⟩)
       cases hmode with
       | opn h1 _ _ => exact h1.elim
       | reg h1 h2 h3 => exact blk rfl (.reg trivial h2 h3)
       | last z h1 h2 h3 h4 => exact blk rfl (.last z trivial h2 h3 h4)
       | sema h2 =>
         obtain ⟨a', hgo, m, hG⟩ := hgo3 hwg
         exact book hgo (aside_setCell w (smA L.Wg) _) (hwg.setSm 0) bkS (tag' := .w4) (m' := m) (by rw [hjj, hdd]; exact .w4 hG) (.fin trivial h2) (by simp [isPre]) (.inl (by simp only [phi]; omega))
       | fin h1 _ => exact h1.elim
     · obtain ⟨a', w', es, hgo, hD, hG⟩ := hstep w (.refl w)
       exact idleM hjj.symm hgo hD (by rw [htg, hjj, hdd]; exact .w3 hG) (by omega)
   | blk h => exact absurd hrun (by simp)
   | w4 h =>
     refine lift ?_
     rcases Goes.cases h with hstop | ⟨m', rfl, hstep⟩
     · obtain ⟨_, hx⟩ := hstop w (.refl w)
       subst htg
       cases hmode with
       | opn h1 _ _ => exact h1.elim
       | reg h1 _ _ => exact h1.elim
       | last z h1 _ _ _ => exact h1.elim
       | fin _ h2 =>
         obtain ⟨a', hgo, m, hG⟩ := hx hwg
         exact book hgo (.refl _ w) hwg bkR (tag' := .ke) (m' := m) (by rw [hjj, hdd]; exact .ke hG) (.fin trivial h2) (by simp [isPre]) (.inl (by simp only [phi]; omega))
     · obtain ⟨a', w', es, hgo, hD, hG⟩ := hstep w (.refl w)
       exact idleM hjj.symm hgo hD (by rw [htg, hjj, hdd]; exact .w4 hG) (by omega)
   | ke h =>
     refine lift ?_
     rcases Goes.cases h with hstop | ⟨m', rfl, hstep⟩
     · obtain ⟨_, a', hgo, m, hG⟩ := hstop w (.refl w)
       subst htg
       cases hmode with
       | opn h1 _ _ => exact h1.elim
       | reg h1 _ _ => exact h1.elim
       | last z h1 _ _ _ => exact h1.elim
       | fin _ h2 => exact book hgo (.refl _ w) hwg bkE (tag' := .acq) (m' := m) (by rw [hjj, hdd]; exact .acq hG) (.fin trivial h2) (by simp [isPre]) (.inl (by simp only [phi]; omega))
     · obtain ⟨a', w', es, hgo, hD, hG⟩ := hstep w (.refl w)
       exact idleM hjj.symm hgo hD (by rw [htg, hjj, hdd]; exact .ke hG) (by omega)
   | acq h =>
     rcases Goes.cases h with hstop | ⟨m', rfl, hstep⟩
     · -- THE JOIN
       obtain ⟨_, a', hgo, hBack⟩ := hstop w (.refl w)
       subst htg
       subst hjj
       have hall : AllQuit (L.m0 + L.n) D := by
         cases hmode with
         | opn h1 _ _ => exact h1.elim
         | reg h1 _ _ => exact h1.elim
         | last z h1 _ _ _ => exact h1.elim
         | fin _ h2 => exact h2
       have hs0 : s ≠ 0 := fun e => by have := I.pre.2 e; exact this
       have hst7 : ∀ q, q < L.n → (D (L.m0 + q)).stage ≤ 7 := fun q hq => by rw [hall _ (by omega)]; omega
       obtain ⟨hsn, hfl⟩ := allDone G I.tk hs0 hst7
       have hrunT := runT_crowd_go (P := L.P) (sl := sl) (i := 0) I.main (by simpa using hgo)
       have hl : ∀ op ∈ MemOp.ofEvents 0 a.frame.fn a.frame.place #[mk (.acquire (stA L.Wg))], op.g = 0 ∧ LateOp L.tl L.n op ∧ op.act.touch? = none := late_mark G (by omega) (.inr (.inl rfl)) (by intro e he; simpa using he)
       have hq0 := I.com.deaf0
       rw [hdd] at hq0
       have hops : MemOp.ofEvents 0 a.frame.fn a.frame.place #[mk (.acquire (stA L.Wg))] = #[{ g := 0, fn := a.frame.fn, pos := a.frame.place, act := .mark (.acquire (stA L.Wg)) }] := by rw [ofEvents_eq]; simp [ofEvent_mk]
       have htr' := I.com.tr.appMute (u := MemOp.ofEvents 0 a.frame.fn a.frame.place #[mk (.acquire (stA L.Wg))]) (K' := fun _ => True) (fun _ _ => trivial) (fun op hop => (hl op hop).2.1) (fun op hop => (hl op hop).2.2)
       have hD0 : Deaf (t ++ MemOp.ofEvents 0 a.frame.fn a.frame.place #[mk (.acquire (stA L.Wg))]) 0 = 0 := by rw [Deaf_own, hq0]; rfl
       have hget : (t ++ MemOp.ofEvents 0 a.frame.fn a.frame.place #[mk (.acquire (stA L.Wg))])[t.size]? = some { g := 0, fn := a.frame.fn, pos := a.frame.place, act := .mark (.acquire (stA L.Wg)) } := by rw [hops]; simp
       have hPast := htr'.join H O hD0 (q := t.size) (act?_of hget) (g?_of hget) ⟨0, g?_of hget, by rw [deaf_old (Nat.le_refl _)]; exact hq0⟩ (fun i hi => by
         obtain ⟨r, hr⟩ := I.com.rel i hi (by rw [hall _ (by omega)]; omega)
         exact ⟨r, hr.appOther g_of_ofEvents (by omega), lt_of_act? hr.act⟩)
       have hquits := I.quits hall
       refine ⟨_, _, hrunT, .inl ⟨_, w, sl, a', fun i => (D i).fuel, rfl, by simp [I.com.size], get_map_set_same _ _ _ (by rw [I.com.size]; omega), hBack, ⟨fun i g h0 hg => ?_, fun i hi => ?_⟩, hPast, ?_⟩⟩
       · rw [get_map_set _ _ _ _ (by omega)] at hg
         obtain ⟨y, hy, rfl⟩ := Option.map_eq_some_iff.1 hg
         have hq := hquits i y h0 hy
         rw [woken_quitsD hq, Deaf_other t (by omega) _ g_of_ofEvents, I.com.deafW i h0 (by have := (Array.getElem?_eq_some_iff.1 hy).1; rw [I.com.size] at this; exact this)]
         exact hq
       · simp [I.com.size] at hi
         rw [Deaf_other t (by omega) _ g_of_ofEvents]
         exact I.com.deafN i hi
       · obtain ⟨T, hT⟩ := I.tk.sum (fun g e => by rw [e] at hfl; cases hfl)
         rw [hsn] at hT
         exact ⟨T, hT⟩
     · obtain ⟨a', w', es, hgo, hD, hG⟩ := hstep w (.refl w)
       exact lift (idleM hjj.symm hgo hD (by rw [htg, hjj, hdd]; exact .acq hG) (by omega))
  exact key _ _ _ _ I.cs rfl rfl rfl rfl

/-- The run goes on till it is through. -/
theorem run_to {P : Program} {α : Type} {r : α → α → Prop} (wf : WellFounded r) (Inv : α → Machine → Trace → Prop) (Ex : Machine → Trace → Prop)
    (h : ∀ μ m t, Inv μ m t → ∃ m' ops, stepT P m = (.next m', ops) ∧ (Ex m' (t ++ ops) ∨ ∃ μ', r μ' μ ∧ Inv μ' m' (t ++ ops))) :
    ∀ μ m t, Inv μ m t → ∃ N m' t', runNT P N m t = (.next m', t') ∧ Ex m' t' := by
  intro μ
  induction μ using wf.induction with
  | _ μ ih =>
    intro m t hI
    obtain ⟨m', ops, hs, hx | ⟨μ', hr, hI'⟩⟩ := h μ m t hI
    · exact ⟨1, m', t ++ ops, by simp [runNT, hs], hx⟩
    · obtain ⟨N, m'', t', h1, h2⟩ := ih μ' hr m' (t ++ ops) hI'
      exact ⟨N + 1, m'', t', by rw [runNT_succ_next hs]; exact h1, h2⟩

theorem relay_runs (G : Geo L) (H : T0 L.tl B₀ t₀) (hAr : ∀ g w, Anch g w → g.status = .running) (hAn : ∀ g w, Anch g w → ∃ m, Goes L.P true (RM L) (DM L L.n) (AtW1 L Anch Back) m g w) :
    ∀ μ m t, Inv L Anch Back t₀ μ m t → ∃ N m' t', runNT L.P N m t = (.next m', t') ∧ Exit L Back m' t' := by
  refine run_to (r := Lt2) (Prod.lex Nat.lt_wfRel Nat.lt_wfRel).wf (Inv L Anch Back t₀) (Exit L Back) ?_
  rintro μ m t ⟨gs, w, sl, j, s, f, D, tag, f0, d0, a, st, sm, rfl, I, rfl⟩
  have hm0 := G.m0
  obtain ⟨i, g, d, sl', hg, hrun, hstep⟩ := crowd_pick (P := L.P) (w := w) (sl := sl) (all_awake G hAr I) (someone_runs G hAr I)
  have I' : InvAt L Anch Back t₀ gs (w.at d) j s f D tag f0 d0 a st sm t := by
    refine ⟨I.main, I.cs.rely (.at w d), ?_, I.wg, I.mode, ⟨I.tk.chan, I.tk.form, I.tk.sum, I.tk.hold, I.tk.left, I.tk.park⟩, I.pre⟩
    exact ⟨I.com.size, I.com.jn, I.com.z, I.com.old, fun q hq => let ⟨g, hg, hs⟩ := I.com.wk q hq; ⟨g, hg, hs.rely (.at w d) fun _ => rfl⟩, I.com.tr, I.com.deaf0, I.com.deafW, I.com.deafN, I.com.rel⟩
  rw [hstep]
  have hlt : i < L.m0 + j := by have := (Array.getElem?_eq_some_iff.1 hg).1; rw [I.com.size] at this; exact this
  rcases Nat.eq_zero_or_pos i with rfl | hp
  · have := I.main
    rw [hg] at this
    obtain rfl := Option.some.inj this
    exact stepMain G H hAr hAn I' hrun
  · have fin : (∃ m₁ ops, runT L.P (crowd gs (w.at d) sl') i = (.next m₁, ops) ∧ ∃ μ', Lt2 μ' (mu L (L.m0 + j) D tag f0) ∧ Inv L Anch Back t₀ μ' m₁ (t ++ ops)) →
        ∃ m₁ ops, runT L.P (crowd gs (w.at d) sl') i = (.next m₁, ops) ∧ (Exit L Back m₁ (t ++ ops) ∨ ∃ μ', Lt2 μ' (mu L (L.m0 + j) D tag f0) ∧ Inv L Anch Back t₀ μ' m₁ (t ++ ops)) := fun ⟨m₁, ops, h1, h2⟩ => ⟨m₁, ops, h1, .inr h2⟩
    refine fin ?_
    rcases Nat.lt_or_ge i L.m0 with ho | hw
    · obtain ⟨g', hg', h1, hQ⟩ := I.com.old i hp ho
      rw [hg] at hg'; cases hg'
      exact stepQuit G hAr I' hp hlt hg hrun h1 hQ
    · obtain ⟨q, rfl⟩ : ∃ q, i = L.m0 + q := ⟨i - L.m0, by omega⟩
      have hq : q < j := by omega
      rcases stepWk (sl := sl') G H hAr I' I'.cs.bound hq hg hrun with h | ⟨r, h1, h2, h3, h4⟩ | ⟨r, h1, h2, h3⟩
      · exact h
      · by_cases hnt : q = tgt L s ∧ flyN f = 1
        · exact stepTake G hAr I' hq hg h1 h3 h4 hnt.1 hnt.2
        · exact stepPark G hAr I' hq hg h1 h2 h3 h4 hnt
      · exact stepSend G hAr I' hq hg h1 h2 h3

/-- FROM A FRAME in which goroutine 0 stands ahead of starting the workers, all others leaving, TO A FRAME behind the join, on every tape. -/
theorem relay_join (G : Geo L) (H : T0 L.tl B₀ t₀) (hAr : ∀ g w, Anch g w → g.status = .running) (hAn : ∀ g w, Anch g w → ∃ m, Goes L.P true (RM L) (DM L L.n) (AtW1 L Anch Back) m g w)
    {q : Nat → Nat} (hsz : gs.size = L.m0) (ha : gs[0]? = some a) (hL : Leavers L.P t₀ gs q) (hwg : WgAt L.ty L.Wg w 0 0) (hch : ∀ i, i < L.n → w.heap[L.ch i]? = some (.chan 1 #[] false 0 0 false)) (hsm : ∃ T, w.heap[L.Sm]? = some (.cells #[.int .i64 0] T))
    (hsp : Spawns L Anch L.n a w) : ∃ N m' t', runNT L.P N (crowd gs w sl) t₀ = (.next m', t') ∧ Exit L Back m' t' := by
  have hn1 := G.n1
  have hm0 := G.m0
  obtain ⟨r, hr⟩ : ∃ r, L.n = r + 1 := ⟨L.n - 1, by omega⟩
  rw [hr] at hsp
  obtain ⟨m, hG⟩ := hsp
  have hcs := CS.skd (L := L) (Anch := Anch) (Back := Back) (by omega : r < L.n) hG
  have e0 : L.n - (r + 1) = 0 := by omega
  rw [e0] at hcs
  have hV : Vc (L.m0 + 0) (fun i => if i = 0 then (⟨1, 0, 0⟩ : WD) else ⟨1, q i, Deaf t₀ i⟩) = 0 := by
    have := Vc_le' (m0 := L.m0) (D := fun i => if i = 0 then (⟨1, 0, 0⟩ : WD) else ⟨1, q i, Deaf t₀ i⟩) (fun i _ => by by_cases e : i = 0 <;> simp [e]) 0
    omega
  have hst : ∀ i, (if i = 0 then (⟨1, 0, 0⟩ : WD) else ⟨1, q i, Deaf t₀ i⟩).stage = 1 := fun i => by by_cases e : i = 0 <;> simp [e]
  have tk : Tk L 0 0 .pre (fun i => if i = 0 then (⟨1, 0, 0⟩ : WD) else ⟨1, q i, Deaf t₀ i⟩) w := by
    refine ⟨fun i hi => ?_, .inl ⟨rfl, rfl⟩, fun _ => by simpa using hsm, fun i hi => by omega, fun i hi => by omega, fun i hi => by omega⟩
    rw [hch i hi, buf, if_neg (by simp [flyN])]
    unfold rcv
    rw [snd_zero G hi]
    simp
  have com : Com L t₀ 0 (0 - 1) .pre gs w t₀ (fun i => if i = 0 then (⟨1, 0, 0⟩ : WD) else ⟨1, q i, Deaf t₀ i⟩) 0 := by
    refine ⟨hsz, by omega, by simp, fun i h0 hi => ?_, fun i hi => by omega, RT.init H (tok G), H.past.hears, fun i h0 hi => by simp [show i ≠ 0 by omega], fun i hi => hL.above i (by omega), fun i hi => by omega⟩
    have hlt : i < gs.size := by omega
    refine ⟨gs[i], Array.getElem?_eq_getElem hlt, hst i, ?_⟩
    have := hL.old i gs[i] h0 (Array.getElem?_eq_getElem hlt)
    simpa [show i ≠ 0 by omega] using this
  refine relay_runs G H hAr hAn _ (crowd gs w sl) t₀ ⟨gs, w, sl, 0, 0, .pre, _, .sp r 5, m, 0, a, 0, 0, rfl, ⟨ha, hcs, com, hwg, ?_, tk, by simp [isPre]⟩, rfl⟩
  have := Mode.opn (M := L.m0 + 0) (D := fun i => if i = 0 then (⟨1, 0, 0⟩ : WD) else ⟨1, q i, Deaf t₀ i⟩) (tag := .sp r 5) trivial (fun i _ => .inr (hst i)) (by simp)
  rw [hV] at this
  simpa [pend] using this
end
end Go.Proofs.Ytejedbknpjffkaa.Rl
