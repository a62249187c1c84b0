/- THE RELAY: how what holds is kept: whoever stands aside stands as it stood; a step of one goroutine other than the starter; a step of the starter's. -/
import Derived.Test.YtejedbknpjffkaaRlM
namespace Go.Proofs.Ytejedbknpjffkaa.Rl
open Go Go.Conc
open Go.ConcN (ShN WgLive RelBy RelBy.appOther RelBy.appNot RelBy.new RelBy.book upd upd_same upd_ne sumTo sumTo_upd sumTo_congr sumTo_le le_sumTo get_map_set get_map_set_same Deaf_still Deaf_absent bk_cell deafBehind_idle norel_of)
open Go.ConcR (KK wgBlock WgAt stA smA rd wr mk Bk bk_of_mute ofEvent_loc_mark ofEvent_cell ofEvent_mk loc_of_ofEvent g_of_ofEvents deafBehind_cons deafBehind_one)

theorem relby_mute {a : Addr} {t u : Trace} {k r : Nat} (h : RelBy a t k r) (hu : ∀ op ∈ u, op.act.touch? = none) : RelBy a (t ++ u) k r := by
  refine h.app fun i hi hg hc => ?_
  obtain ⟨x, hx, _, _⟩ := hc
  obtain ⟨op, ho, hox⟩ := touch_of hx
  rcases getElem?_append_cases ho with ⟨hlt, _⟩ | ⟨_, hou⟩
  · omega
  · rw [hu op hou] at hox; cases hox

section
variable {L : Lay} {Anch Back : Goroutine → World → Prop} {t₀ t u : Trace} {B₀ j x x' s s' : Nat} {f f' : Flow} {gs gs' : Array Goroutine} {w w' : World} {sl : Option (Nat × Nat)} {D D' : Nat → WD} {tag : Tag} {f0 d0 d0' : Nat} {a : Goroutine} {st sm : Int}

theorem Com.next (G : Geo L) (h : Com L t₀ j x f gs w t D d0) (S : Nat → Prop) (hsz : gs'.size = gs.size)
    (hget : ∀ i, 0 < i → i < L.m0 + j → ¬ S i → ∀ g, gs[i]? = some g → (∀ b b', woken L.P b b' w' g = g) → gs'[i]? = some g)
    (hD : ∀ i, ¬ S i → D' i = D i) (hS0 : ¬ S 0)
    (hrw : ∀ q, q < j → ¬ S (L.m0 + q) → RWk L q w w')
    (hsm : ∀ q, q < j → ¬ S (L.m0 + q) → Holds (D (L.m0 + q)).stage → w'.heap[L.Sm]? = w.heap[L.Sm]? ∧ x' = x)
    (hch : ∀ q, q < L.n → ∃ cap buf a b tm, w'.heap[L.ch q]? = some (.chan cap buf false a b tm))
    (hnO : ∀ i, 0 < i → i < L.m0 → S i → ∃ g, gs'[i]? = some g ∧ (D' i).stage = 1 ∧ QuitsD L.P (D' i).fuel (D' i).deaf g)
    (hnW : ∀ q, q < j → S (L.m0 + q) → ∃ g, gs'[L.m0 + q]? = some g ∧ WS L q x' (D' (L.m0 + q)).stage (D' (L.m0 + q)).fuel (D' (L.m0 + q)).deaf g w')
    (htr : RT L.tl t₀ j (t ++ u) (SumK (t ++ u) f')) (hd0 : Deaf (t ++ u) 0 = d0') (hdW : ∀ i, 0 < i → i < L.m0 + j → Deaf (t ++ u) i = (D' i).deaf) (hdN : ∀ i, L.m0 + j ≤ i → Deaf (t ++ u) i = 0)
    (hrel : ∀ q, q < j → (D' (L.m0 + q)).stage ≤ 6 → ∃ r, RelBy (stA L.Wg) (t ++ u) (L.m0 + q) r) : Com L t₀ j x' f' gs' w' (t ++ u) D' d0' := by
  have hm0 := G.m0
  refine ⟨hsz.trans h.size, h.jn, (hD 0 hS0).trans h.z, fun i h0 hi => ?_, fun q hq => ?_, htr, hd0, hdW, hdN, hrel⟩
  · by_cases hs : S i
    · exact hnO i h0 hi hs
    · obtain ⟨g, hg, h1, hQ⟩ := h.old i h0 hi
      exact ⟨g, hget i h0 (by omega) hs g hg (fun b b' => woken_quitsD hQ), by rw [hD i hs]; exact h1, by rw [hD i hs]; exact hQ⟩
  · by_cases hs : S (L.m0 + q)
    · exact hnW q hq hs
    · obtain ⟨g, hg, hw⟩ := h.wk q hq
      refine ⟨g, hget _ (by omega) (by omega) hs g hg (fun b b' => ?_), ?_⟩
      · have hw1 : WS L q x (D (L.m0 + q)).stage (D (L.m0 + q)).fuel (D (L.m0 + q)).deaf g w' := hw.rely (hrw q hq hs) fun hh => (hsm q hq hs hh).1
        exact hw1.woken (fun _ => hch q (by have := h.jn; omega)) b b'
      · rw [hD _ hs]
        by_cases hh : Holds (D (L.m0 + q)).stage
        · obtain ⟨e1, e2⟩ := hsm q hq hs hh
          rw [e2]
          exact hw.rely (hrw q hq hs) fun _ => e1
        · exact (hw.rely (hrw q hq hs) fun hh' => absurd hh' hh).renum hh

theorem Tk.opens (h : Tk L j s f D w) : ∀ q, q < L.n → ∃ cap buf a b tm, w.heap[L.ch q]? = some (.chan cap buf false a b tm) := fun q hq => ⟨_, _, _, _, _, h.chan q hq⟩

/-- One goes on between its communications. -/
theorem Tk.same (h : Tk L j s f D w) (hc : ∀ q, q < L.n → w'.heap[L.ch q]? = w.heap[L.ch q]?) (hsum : (∀ g, f ≠ .held g) → w'.heap[L.Sm]? = w.heap[L.Sm]?) (i : Nat) {y : WD}
    (h1 : (y.stage - 8) / 2 = ((D i).stage - 8) / 2) (h2 : Holds y.stage ↔ Holds (D i).stage) (h3 : Parked y.stage y.fuel → Parked (D i).stage (D i).fuel) : Tk L j s f (upd D i y) w' := by
  refine ⟨fun q hq => (hc q hq).trans (h.chan q hq), h.form, fun hf => let ⟨T, hT⟩ := h.sum hf; ⟨T, (hsum hf).trans hT⟩, fun q hq => ?_, fun q hq => ?_, fun q hq hf hqt => ?_⟩
  · by_cases e : L.m0 + q = i
    · rw [e, upd_same, h2, ← e]; exact h.hold q hq
    · rw [upd_ne D _ e]; exact h.hold q hq
  · by_cases e : L.m0 + q = i
    · rw [e, upd_same, h1, ← e]; exact h.left q hq
    · rw [upd_ne D _ e]; exact h.left q hq
  · by_cases e : L.m0 + q = i
    · rw [e, upd_same]; rw [← e] at h3; exact fun hp => h.park q hq hf hqt (h3 hp)
    · rw [upd_ne D _ e]; exact h.park q hq hf hqt
theorem Tk.world (h : Tk L j s f D w) (hc : ∀ q, q < L.n → w'.heap[L.ch q]? = w.heap[L.ch q]?) (hsum : (∀ g, f ≠ .held g) → w'.heap[L.Sm]? = w.heap[L.Sm]?) : Tk L j s f D w' :=
  ⟨fun q hq => (hc q hq).trans (h.chan q hq), h.form, fun hf => let ⟨T, hT⟩ := h.sum hf; ⟨T, (hsum hf).trans hT⟩, h.hold, h.left, h.park⟩

/-- A STEP OF GOROUTINE NUMBER i's, none of the starter's. -/
theorem goW (G : Geo L) (hAr : ∀ g w, Anch g w → g.status = .running) (I : InvAt L Anch Back t₀ gs w j s f D tag f0 d0 a st sm t) {i : Nat} (h0 : 0 < i) (hi : i < L.m0 + j) {g g' : Goroutine} {es : Array Event} {y : WD} {st' sm' : Int}
    (hg : gs[i]? = some g) (hgo : stepG L.P false g w = .go g' w' es) (hrm : RM L w w') (hrw : ∀ q, q < j → L.m0 + q ≠ i → RWk L q w w') (hsm : ∀ q, q < j → L.m0 + q ≠ i → Holds (D (L.m0 + q)).stage → w'.heap[L.Sm]? = w.heap[L.Sm]?)
    (hnO : i < L.m0 → y.stage = 1 ∧ QuitsD L.P y.fuel y.deaf g') (hnW : ∀ q, i = L.m0 + q → WS L q (s - 1) y.stage y.fuel y.deaf g' w')
    (htr : RT L.tl t₀ j (t ++ MemOp.ofEvents i g.frame.fn g.frame.place es) (SumK (t ++ MemOp.ofEvents i g.frame.fn g.frame.place es) f)) (hd : deafBehind (D i).deaf es = y.deaf)
    (hrel : ∀ q, i = L.m0 + q → y.stage ≤ 6 → ∃ r, RelBy (stA L.Wg) (t ++ MemOp.ofEvents i g.frame.fn g.frame.place es) i r)
    (hwg : WgAt L.ty L.Wg w' st' sm') (hmode : ∀ tag', (tag' = tag ∨ (tag = .blk ∧ tag' = .w3)) → (mayWake L.P g = true → g'.status = .running → tag' ≠ .blk) → Mode (L.m0 + j) (upd D i y) tag' st' sm')
    (htk : Tk L j s f (upd D i y) w') (hlt : (y.stage < (D i).stage ∧ cnt y ≤ cnt (D i)) ∨ (y.stage = (D i).stage ∧ y.fuel + 1 = (D i).fuel)) :
    ∃ m₁ ops, runT L.P (crowd gs w sl) i = (.next m₁, ops) ∧ ∃ μ', Lt2 μ' (mu L (L.m0 + j) D tag f0) ∧ Inv L Anch Back t₀ μ' m₁ (t ++ ops) := by
  obtain ⟨ha, hcs, hcom, _, _, _, hpre⟩ := I
  obtain ⟨tag', f', hcs', hf', htag, hwk⟩ := hcs.wokenBy hAr hrm g g'
  have hib : (i == 0) = false := by simp; omega
  have hrun := runT_crowd_go (P := L.P) (sl := sl) (i := i) hg (by rw [hib]; exact hgo)
  have e1 := sumTo_upd D y cnt hi
  have e2 := sumTo_upd D y WD.stage hi
  have e3 := sumTo_upd D y WD.fuel hi
  have hisz : i < gs.size := by rw [hcom.size]; exact hi
  refine ⟨_, _, hrun, mu L (L.m0 + j) (upd D i y) tag' f', ?_, _, w', sl, j, s, f, upd D i y, tag', f', d0, woken L.P g g' w' a, st', sm', rfl, ⟨?_, hcs', ?_, hwg, hmode tag' htag hwk, htk, ?_⟩, rfl⟩
  · unfold mu
    rw [phi_retag L _ htag]
    simp only [Vc, Ssum, Fsum] at *
    rcases hlt with ⟨h1, h2⟩ | ⟨h1, h2⟩
    · refine Prod.Lex.left _ _ ?_
      have := phi_mono L (v' := sumTo (L.m0 + j) fun a => cnt (upd D i y a)) (v := sumTo (L.m0 + j) fun a => cnt (D a)) (by omega) tag
      omega
    · have ec : cnt y = cnt (D i) := by simp only [cnt, h1]
      have ev : (sumTo (L.m0 + j) fun a => cnt (upd D i y a)) = sumTo (L.m0 + j) fun a => cnt (D a) := by omega
      have es' : (sumTo (L.m0 + j) fun a => (upd D i y a).stage) = sumTo (L.m0 + j) fun a => (D a).stage := by omega
      rw [ev, es']
      refine Prod.Lex.right _ ?_
      omega
  · rw [get_map_set _ _ _ _ (by omega), ha]; rfl
  · refine hcom.next G (fun b => b = i) (by simp) (fun b hb0 hb hbi x hx hw => ?_) (fun b hb => upd_ne D _ hb) (by omega) hrw (fun q hq hqi hh => ⟨hsm q hq hqi hh, rfl⟩) htk.opens (fun b hb0 hb hbi => ?_) (fun q hq hqi => ?_) htr
      (by rw [Deaf_other t (by omega) _ g_of_ofEvents, hcom.deaf0]) (fun b hb0 hb => ?_) (fun b hb => by rw [Deaf_other t (by omega) _ g_of_ofEvents, hcom.deafN b hb]) (fun q hq hst => ?_)
    · rw [get_map_set _ _ _ _ (fun e => hbi e.symm), hx, Option.map_some, hw]
    · subst hbi
      obtain ⟨h1, h2⟩ := hnO hb
      exact ⟨g', get_map_set_same _ _ _ hisz, by rw [upd_same]; exact h1, by rw [upd_same]; exact h2⟩
    · exact ⟨g', by rw [hqi]; exact get_map_set_same _ _ _ hisz, by rw [hqi, upd_same]; exact hnW q hqi.symm⟩
    · by_cases e : b = i
      · subst e; rw [Deaf_own, hcom.deafW b hb0 hb, upd_same]; exact hd
      · rw [Deaf_other t (fun e' => e e'.symm) _ g_of_ofEvents, hcom.deafW b hb0 hb, upd_ne D _ e]
    · by_cases e : L.m0 + q = i
      · rw [e]; rw [e, upd_same] at hst; exact hrel q e.symm hst
      · rw [upd_ne D _ e] at hst
        obtain ⟨r, hr⟩ := hcom.rel q hq hst
        exact ⟨r, hr.appOther g_of_ofEvents (fun e' => e e'.symm)⟩
  · rw [← hpre]
    rcases htag with rfl | ⟨rfl, rfl⟩
    · exact Iff.rfl
    · simp [isPre]

/-- A STEP OF THE STARTER's, no go statement, no communication. -/
theorem goM (G : Geo L) (I : InvAt L Anch Back t₀ gs w j s f D tag f0 d0 a st sm t) {a' : Goroutine} {es : Array Event} {tag' : Tag} {f' : Nat} {st' sm' : Int}
    (hgo : stepG L.P true a w = .go a' w' es) (hrw : ∀ q, q < j → RWk L q w w') (hsm : w'.heap[L.Sm]? = w.heap[L.Sm]?) (hc : ∀ q, q < L.n → w'.heap[L.ch q]? = w.heap[L.ch q]?)
    (htr : RT L.tl t₀ j (t ++ MemOp.ofEvents 0 a.frame.fn a.frame.place es) (SumK (t ++ MemOp.ofEvents 0 a.frame.fn a.frame.place es) f))
    (hcs' : CS L Anch Back tag' j f' (deafBehind d0 es) a' w') (hwg : WgAt L.ty L.Wg w' st' sm') (hmode : Mode (L.m0 + j) D tag' st' sm') (hpre : isPre tag' ↔ isPre tag)
    (hlt : phi L (Vc (L.m0 + j) D) tag' < phi L (Vc (L.m0 + j) D) tag ∨ (phi L (Vc (L.m0 + j) D) tag' = phi L (Vc (L.m0 + j) D) tag ∧ f' < f0)) :
    ∃ m₁ ops, runT L.P (crowd gs w sl) 0 = (.next m₁, ops) ∧ ∃ μ', Lt2 μ' (mu L (L.m0 + j) D tag f0) ∧ Inv L Anch Back t₀ μ' m₁ (t ++ ops) := by
  obtain ⟨ha, _, hcom, _, _, htk, hp⟩ := I
  have hm0 := G.m0
  have hrun := runT_crowd_go (P := L.P) (sl := sl) (i := 0) ha (by simpa using hgo)
  have hisz : 0 < gs.size := by rw [hcom.size]; omega
  have htk' : Tk L j s f D w' := htk.world hc (fun _ => hsm)
  refine ⟨_, _, hrun, mu L (L.m0 + j) D tag' f', ?_, _, w', sl, j, s, f, D, tag', f', deafBehind d0 es, a', st', sm', rfl, ⟨get_map_set_same _ _ _ hisz, hcs', ?_, hwg, hmode, htk', hpre.trans hp⟩, rfl⟩
  · unfold mu
    rcases hlt with h | ⟨h1, h2⟩
    · exact Prod.Lex.left _ _ (by omega)
    · rw [h1]; exact Prod.Lex.right _ (by omega)
  · refine hcom.next G (fun _ => False) (by simp) (fun b hb0 hb _ x hx hw => ?_) (fun b _ => rfl) (fun h => h) (fun q hq _ => hrw q hq) (fun q hq _ _ => ⟨hsm, rfl⟩) htk'.opens (fun b _ _ h => h.elim) (fun q _ h => h.elim) htr
      (by rw [Deaf_own, hcom.deaf0]) (fun b hb0 hb => by rw [Deaf_other t (by omega) _ g_of_ofEvents, hcom.deafW b hb0 hb]) (fun b hb => by rw [Deaf_other t (by omega) _ g_of_ofEvents, hcom.deafN b hb]) (fun q hq hst => ?_)
    · rw [get_map_set _ _ _ _ (by omega), hx, Option.map_some, hw]
    · obtain ⟨r, hr⟩ := hcom.rel q hq hst
      exact ⟨r, hr.appOther g_of_ofEvents (by omega)⟩
end
end Go.Proofs.Ytejedbknpjffkaa.Rl
