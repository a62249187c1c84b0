/- THE RELAY: the communications: a worker parks at its channel; it takes what lies there; one who holds gives to the next. -/
import Derived.Test.YtejedbknpjffkaaRlW
namespace Go.Proofs.Ytejedbknpjffkaa.Rl
open Go Go.Conc
open Go.ConcN (ShN WgLive RelBy RelBy.appOther RelBy.appNot RelBy.new RelBy.book upd upd_same upd_ne sumTo sumTo_upd sumTo_congr sumTo_le le_sumTo get_map_set get_map_set_same Deaf_still Deaf_absent bk_cell deafBehind_idle norel_of norel_of_Bk)
open Go.ConcR (KK wgBlock WgAt stA smA rd wr mk Bk bk_of_mute ofEvent_loc_mark ofEvent_cell ofEvent_mk loc_of_ofEvent g_of_ofEvents deafBehind_cons deafBehind_one)

theorem aside_setChan (w : World) (c cap : Nat) (b : Array Value) (cl : Bool) (s r : Nat) (tm : Bool) : Aside c w (w.setChan c cap b cl s r tm) :=
  ⟨rfl, rfl, rfl, by simp [World.setChan], fun k hk => by
    simp only [World.setChan]
    rw [Array.getElem?_setIfInBounds_ne (Ne.symm hk)]⟩
theorem heap_setChan (w : World) {c cap : Nat} {b : Array Value} {cl : Bool} {s r : Nat} {tm : Bool} {o : Obj} (h : w.heap[c]? = some o) : (w.setChan c cap b cl s r tm).heap[c]? = some (.chan cap b cl s r tm) := by
  obtain ⟨hlt, _⟩ := Array.getElem?_eq_some_iff.1 h
  simp only [World.setChan]
  rw [Array.getElem?_setIfInBounds_self_of_lt hlt]

theorem not_running_parked {g g₂ : Goroutine} {cs : Array CommCase} {sh : CommShape} (h : g.status = .running) : g ≠ parked g₂ cs sh := by
  rintro rfl
  simp [parked] at h

section
variable {L : Lay} {Anch Back : Goroutine → World → Prop} {t₀ t : Trace} {B₀ j s : Nat} {f : Flow} {gs : Array Goroutine} {w : World} {sl : Option (Nat × Nat)} {D : Nat → WD} {tag : Tag} {f0 d0 : Nat} {a : Goroutine} {st sm : Int}

/-- Who offers what. -/
theorem InvAt.offers (hAr : ∀ g w, Anch g w → g.status = .running) (I : InvAt L Anch Back t₀ gs w j s f D tag f0 d0 a st sm t) {b : Nat} {g : Goroutine} (hb : gs[b]? = some g) (c : Nat) (send : Bool) :
    offersAt g c send = [] ∨ (send = false ∧ ∃ q, q < j ∧ b = L.m0 + q ∧ c = L.ch q ∧ Parked (D b).stage (D b).fuel ∧ ∃ g₂, g = parked g₂ #[rcase (L.ch q) U] (.recv false)) := by
  have hlt : b < L.m0 + j := by have := (Array.getElem?_eq_some_iff.1 hb).1; rw [I.com.size] at this; exact this
  rcases Nat.eq_zero_or_pos b with rfl | hp
  · have := I.main
    rw [hb] at this
    obtain rfl := Option.some.inj this
    exact .inl (I.cs.offers hAr c send)
  · rcases Nat.lt_or_ge b L.m0 with ho | hw
    · obtain ⟨g', hg', _, hQ⟩ := I.com.old b hp ho
      rw [hb] at hg'
      obtain rfl := Option.some.inj hg'
      exact .inl (offersAt_of_not_blocked (by rcases hQ.status with e | e <;> rw [e] <;> simp) _ _)
    · obtain ⟨q, rfl⟩ : ∃ q, b = L.m0 + q := ⟨b - L.m0, by omega⟩
      obtain ⟨g', hg', hW⟩ := I.com.wk q (by omega)
      rw [hb] at hg'
      obtain rfl := Option.some.inj hg'
      rcases hW.offers c send with e | ⟨hP, e1, e2, _, g₂, e3⟩
      · exact .inl e
      · exact .inr ⟨e1, q, by omega, rfl, e2, hP, g₂, e3⟩

theorem InvAt.noSenders (hAr : ∀ g w, Anch g w → g.status = .running) (I : InvAt L Anch Back t₀ gs w j s f D tag f0 d0 a st sm t) (i c : Nat) : partners (gs.setIfInBounds i ph) c true = [] :=
  partners_nil fun b g hb => by
    rcases getElem?_stand gs i b g hb with ⟨_, rfl⟩ | ⟨_, hb'⟩
    · rfl
    · rcases I.offers hAr hb' c true with e | ⟨e, _⟩
      · exact e
      · cases e

/-- No goroutine but number i stands parked at channel q. -/
theorem InvAt.noTakers (hAr : ∀ g w, Anch g w → g.status = .running) (G : Geo L) (I : InvAt L Anch Back t₀ gs w j s f D tag f0 d0 a st sm t) {i q : Nat} (hq : q < L.n) (h : q < j → L.m0 + q ≠ i → ¬ Parked (D (L.m0 + q)).stage (D (L.m0 + q)).fuel) : partners (gs.setIfInBounds i ph) (L.ch q) false = [] :=
  partners_nil fun b g hb => by
    rcases getElem?_stand gs i b g hb with ⟨_, rfl⟩ | ⟨hne, hb'⟩
    · rfl
    · rcases I.offers hAr hb' (L.ch q) false with e | ⟨_, q', hq', rfl, e, hP, _⟩
      · exact e
      · have hjn := I.com.jn
        obtain rfl := G.inj q q' hq (by omega) e
        exact absurd hP (h hq' hne)

theorem InvAt.oneTaker (hAr : ∀ g w, Anch g w → g.status = .running) (G : Geo L) (I : InvAt L Anch Back t₀ gs w j s f D tag f0 d0 a st sm t) {i q : Nat} (hq : q < j) (hne : L.m0 + q ≠ i) {g₂ : Goroutine} (hg : gs[L.m0 + q]? = some (parked g₂ #[rcase (L.ch q) U] (.recv false))) :
    partners (gs.setIfInBounds i ph) (L.ch q) false = [(L.m0 + q, 0)] := by
  have hjn := I.com.jn
  rw [partners_one (stand_get hne hg) fun b g hb hb' => ?_]
  · rw [offersAt_parked_recv]; simp
  · rcases getElem?_stand gs i b g hb' with ⟨_, rfl⟩ | ⟨_, hb''⟩
    · rfl
    · rcases I.offers hAr hb'' (L.ch q) false with e | ⟨_, q', hq', rfl, e, _⟩
      · exact e
      · obtain rfl := G.inj q q' (by omega) (by omega) e
        exact absurd rfl hb

/-- How many rounds are left bounds how often it was handed on. -/
theorem lt_of_left (G : Geo L) {s r : Nat} (hs : 1 ≤ s) (h : snd L s (tgt L s) + r = L.k) : s - 1 < L.n * L.k := by
  have h1 := snd_tgt G hs
  have h2 := tgt_lt G s
  have : L.n * snd L s (tgt L s) ≤ L.n * L.k := Nat.mul_le_mul_left _ (by omega)
  omega

/-- IT PARKS. -/
theorem stepPark (G : Geo L) (hAr : ∀ g w, Anch g w → g.status = .running) (I : InvAt L Anch Back t₀ gs w j s f D tag f0 d0 a st sm t) {q r : Nat} (hq : q < j) {g : Goroutine} (hg : gs[L.m0 + q]? = some g)
    (hst : (D (L.m0 + q)).stage = 2 * r + 10) (hfu : 1 ≤ (D (L.m0 + q)).fuel) (hde : (D (L.m0 + q)).deaf = 0) (hs : AtSeat L q (HoldN L q r) g w) (hnt : ¬ (q = tgt L s ∧ flyN f = 1)) :
    ∃ m₁ ops, runT L.P (crowd gs w sl) (L.m0 + q) = (.next m₁, ops) ∧ ∃ μ', Lt2 μ' (mu L (L.m0 + j) D tag f0) ∧ Inv L Anch Back t₀ μ' m₁ (t ++ ops) := by
  obtain ⟨hrun, g₂, hst0, hN⟩ := hs
  have hm0 := G.m0
  have hjn := I.com.jn
  have hi : L.m0 + q < L.m0 + j := by omega
  have hib : (L.m0 + q == 0) = false := by simp; omega
  have hch := I.tk.chan q (by omega)
  rw [buf, if_neg hnt] at hch
  have hrunT := crowd_waits (P := L.P) (sl := sl) hg (by rw [hib]; exact hst0) (fun cc hcc => by
    simp only [List.mem_toArray, List.mem_cons, List.not_mem_nil, or_false] at hcc
    subst hcc
    exact ways_recv_none hch (I.noSenders hAr _ _))
  have e1 := sumTo_upd D (⟨2 * r + 10, 0, 0⟩ : WD) cnt hi
  have e2 := sumTo_upd D (⟨2 * r + 10, 0, 0⟩ : WD) WD.stage hi
  have e3 := sumTo_upd D (⟨2 * r + 10, 0, 0⟩ : WD) WD.fuel hi
  have hisz : L.m0 + q < gs.size := by rw [I.com.size]; exact hi
  have he : MemOp.ofEvents (L.m0 + q) g.frame.fn g.frame.place #[] = #[] := by rw [ofEvents_eq]; simp
  have htk : Tk L j s f (upd D (L.m0 + q) ⟨2 * r + 10, 0, 0⟩) w := by
    refine ⟨I.tk.chan, I.tk.form, I.tk.sum, fun q' hq' => ?_, fun q' hq' => ?_, fun q' hq' hf hqt => ?_⟩
    · by_cases e : L.m0 + q' = L.m0 + q
      · rw [e, upd_same]; have := I.tk.hold q hq; rw [hst] at this; exact this
      · rw [upd_ne D _ e]; exact I.tk.hold q' hq'
    · by_cases e : L.m0 + q' = L.m0 + q
      · obtain rfl : q' = q := by omega
        rw [upd_same]; have := I.tk.left q' hq; rw [hst] at this; exact this
      · rw [upd_ne D _ e]; exact I.tk.left q' hq'
    · by_cases e : L.m0 + q' = L.m0 + q
      · obtain rfl : q' = q := by omega
        exact absurd ⟨hqt, hf⟩ hnt
      · rw [upd_ne D _ e]; exact I.tk.park q' hq' hf hqt
  refine ⟨_, _, hrunT, mu L (L.m0 + j) (upd D (L.m0 + q) ⟨2 * r + 10, 0, 0⟩) tag f0, ?_, _, w, sl, j, s, f, upd D (L.m0 + q) ⟨2 * r + 10, 0, 0⟩, tag, f0, d0, a, st, sm, rfl, ⟨?_, I.cs, ?_, I.wg, I.mode.upd1 (.inr (by rw [hst])), htk, I.pre⟩, rfl⟩
  · unfold mu
    simp only [Vc, Ssum, Fsum] at *
    have ec : cnt (⟨2 * r + 10, 0, 0⟩ : WD) = cnt (D (L.m0 + q)) := by simp only [cnt, hst]
    have ev : (sumTo (L.m0 + j) fun a => cnt (upd D (L.m0 + q) ⟨2 * r + 10, 0, 0⟩ a)) = sumTo (L.m0 + j) fun a => cnt (D a) := by omega
    have es' : (sumTo (L.m0 + j) fun a => (upd D (L.m0 + q) ⟨2 * r + 10, 0, 0⟩ a).stage) = sumTo (L.m0 + j) fun a => (D a).stage := by omega
    rw [ev, es']
    exact Prod.Lex.right _ (by omega)
  · rw [Array.getElem?_setIfInBounds_ne (by omega)]; exact I.main
  · rw [he]
    refine I.com.next G (fun b => b = L.m0 + q) (by simp) (fun b hb0 hb hbi x hx hw => ?_) (fun b hb => upd_ne D _ hb) (by omega) (fun _ _ _ => .refl _) (fun _ _ _ _ => ⟨rfl, rfl⟩) I.tk.opens (fun b hb0 hb hbi => by omega) (fun q' hq' hqi => ?_) (by simpa using I.com.tr)
      (by simpa using I.com.deaf0) (fun b hb0 hb => ?_) (fun b hb => by simpa using I.com.deafN b hb) (fun q' hq' hst' => ?_)
    · rw [Array.getElem?_setIfInBounds_ne (fun e => hbi e.symm)]; exact hx
    · obtain rfl : q' = q := by omega
      exact ⟨_, Array.getElem?_setIfInBounds_self_of_lt hisz, by rw [upd_same]; exact .park hN⟩
    · have := I.com.deafW b hb0 hb
      by_cases e : b = L.m0 + q
      · subst e; rw [upd_same]; simpa [hde] using this
      · rw [upd_ne D _ e]; simpa using this
    · by_cases e : L.m0 + q' = L.m0 + q
      · rw [e, upd_same] at hst'; simp at hst'
      · rw [upd_ne D _ e] at hst'; simpa using I.com.rel q' hq' hst'

/-- The operations of a communication, by goroutines that are there. -/
theorem late_comm {u : Trace} {M : Nat} (hM : M = L.m0 + j) (h : ∀ op ∈ u, op.g < M ∧ op.act.low L.B ∧ op.act.touch? = none ∧ op.act ≠ .mark (.release (stA L.Wg))) : ∀ op ∈ u, LateOp L.tl j op :=
  fun op hop => ⟨(h op hop).2.1, by show op.g < L.m0 + j; rw [← hM]; exact (h op hop).1, (h op hop).2.2.2, fun x hx => by rw [(h op hop).2.2.1] at hx; cases hx⟩

/-- IT TAKES WHAT LIES THERE. -/
theorem stepTake (G : Geo L) (hAr : ∀ g w, Anch g w → g.status = .running) (I : InvAt L Anch Back t₀ gs w j s f D tag f0 d0 a st sm t) {q r : Nat} (hq : q < j) {g : Goroutine} (hg : gs[L.m0 + q]? = some g)
    (hst : (D (L.m0 + q)).stage = 2 * r + 10) (hde : (D (L.m0 + q)).deaf = 0) (hs : AtSeat L q (HoldN L q r) g w) (hqt : q = tgt L s) (hfl : flyN f = 1) :
    ∃ m₁ ops, runT L.P (crowd gs w sl) (L.m0 + q) = (.next m₁, ops) ∧ ∃ μ', Lt2 μ' (mu L (L.m0 + j) D tag f0) ∧ Inv L Anch Back t₀ μ' m₁ (t ++ ops) := by
  obtain ⟨hrun, g₂, hst0, hN⟩ := hs
  have hm0 := G.m0
  have hjn := I.com.jn
  have hi : L.m0 + q < L.m0 + j := by omega
  have hib : (L.m0 + q == 0) = false := by simp; omega
  have hisz : L.m0 + q < gs.size := by rw [I.com.size]; exact hi
  have hch := I.tk.chan q (by omega)
  rw [buf, if_pos ⟨hqt, hfl⟩] at hch
  -- the flow
  obtain ⟨hs1, hfe⟩ : 1 ≤ s ∧ f = .fly (L.ch q) (rcv L f s q) := by
    rcases I.tk.form with ⟨rfl, _⟩ | ⟨h1, _, rfl | h2⟩
    · cases hfl
    · cases hfl
    · exact ⟨h1, by rw [← hqt] at h2; exact h2⟩
  have hleft := I.tk.left q hq
  rw [hst] at hleft
  have hsnd : snd L s q = rcv L f s q + 1 := by
    have h1 := snd_tgt G hs1
    have h2 := tgt_lt G s
    rw [← hqt] at h1 h2
    have : 1 ≤ snd L s q := by
      rcases Nat.eq_zero_or_pos (snd L s q) with h0 | h0
      · rw [h0] at h1; omega
      · exact h0
    unfold rcv
    rw [if_pos hqt, hfl]
    omega
  have hlt : s - 1 < L.n * L.k := lt_of_left G (r := r) hs1 (by rw [← hqt]; omega)
  have hrunT := crowd_recv_buf (P := L.P) (sl := sl) hg (by rw [hib]; exact hst0) hch (by simp) (I.noSenders hAr _ _)
  have he : MemOp.ofEvents (L.m0 + q) g.frame.fn g.frame.place #[] = #[] := by rw [ofEvents_eq]; simp
  rw [he] at hrunT
  have hAs := aside_setChan w (L.ch q) 1 ((#[U] : Array Value).extract 1 (#[U] : Array Value).size) false (snd L s q) (rcv L f s q + 1) false
  have hhp := heap_setChan w (cap := 1) (b := (#[U] : Array Value).extract 1 (#[U] : Array Value).size) (cl := false) (s := snd L s q) (r := rcv L f s q + 1) (tm := false) hch
  generalize hw' : w.setChan (L.ch q) 1 ((#[U] : Array Value).extract 1 (#[U] : Array Value).size) false (snd L s q) (rcv L f s q + 1) false = w' at hrunT hAs hhp
  have hcW := G.hcW q (by omega)
  have hcS := G.hcS q (by omega)
  have hrw : ∀ q', q' < j → RWk L q' w w' := fun q' hq' => .of_aside hAs (fun hk => (G.kb q' _ (by omega) hk).2.2.2 q (by omega) rfl) (fun e => absurd e hcW)
  -- served
  obtain ⟨T, hT⟩ := I.tk.sum (fun g0 e => by rw [e] at hfl; cases hfl)
  obtain ⟨m, hG⟩ := hN w' (hrw q hq) (s - 1) hlt ⟨T, (hAs.block _ (Ne.symm hcS)).trans hT⟩
  have hsv : g₂.finishComm L.P #[rcase (L.ch q) U] (.recv false) 0 ((#[U] : Array Value).getD 0 undef) true = Go.Conc.served g₂ U := by rw [finishComm_recv]; rfl
  rw [hsv] at hrunT
  have e1 := sumTo_upd D (⟨2 * r + 9, m, 0⟩ : WD) cnt hi
  have e2 := sumTo_upd D (⟨2 * r + 9, m, 0⟩ : WD) WD.stage hi
  have hmute : ∀ op ∈ (#[{ g := L.m0 + q, fn := g₂.frame.fn, pos := g₂.frame.place, act := .recv (L.ch q) (rcv L f s q) 1 }, { g := L.m0 + q, fn := g₂.frame.fn, pos := g₂.frame.place, act := .recvDone (L.ch q) (rcv L f s q) }] : Trace), op.g = L.m0 + q ∧ op.act.low L.B ∧ op.act.touch? = none ∧ op.act ≠ .mark (.release (stA L.Wg)) ∧ ∀ g' d, deafStep g' d op = d := by
    intro op hop
    have hlow : L.ch q < L.B := by have := G.hch q (by omega); have := G.hB; omega
    simp only [List.mem_toArray, List.mem_cons, List.not_mem_nil, or_false] at hop
    rcases hop with rfl | rfl
    · exact ⟨rfl, hlow, rfl, by simp, fun _ _ => rfl⟩
    · exact ⟨rfl, hlow, rfl, by simp, fun _ _ => rfl⟩
  have hdq := I.com.deafW (L.m0 + q) (by omega) hi
  rw [hde] at hdq
  have hK : ∀ it, SumK t f it → SumK (t ++ #[{ g := L.m0 + q, fn := g₂.frame.fn, pos := g₂.frame.place, act := .recv (L.ch q) (rcv L f s q) 1 }, { g := L.m0 + q, fn := g₂.frame.fn, pos := g₂.frame.place, act := .recvDone (L.ch q) (rcv L f s q) }]) (.held (L.m0 + q)) it := fun it hk => by
    rw [hfe] at hk
    exact sumK_recv hk hdq _ _
  generalize hu : (#[{ g := L.m0 + q, fn := g₂.frame.fn, pos := g₂.frame.place, act := .recv (L.ch q) (rcv L f s q) 1 }, { g := L.m0 + q, fn := g₂.frame.fn, pos := g₂.frame.place, act := .recvDone (L.ch q) (rcv L f s q) }] : Trace) = u at hrunT hmute hK
  have hrcv : ∀ q', rcv L (.held (L.m0 + q)) s q' = snd L s q' := fun q' => by unfold rcv; simp [flyN]
  have hrcv' : ∀ q', q' ≠ q → rcv L f s q' = snd L s q' := fun q' hne => by unfold rcv; rw [if_neg (fun e => hne (e.trans hqt.symm))]; rfl
  have htk : Tk L j s (.held (L.m0 + q)) (upd D (L.m0 + q) ⟨2 * r + 9, m, 0⟩) w' := by
    refine ⟨fun q' hq' => ?_, .inr ⟨hs1, ?_, .inl (by rw [← hqt])⟩, fun h => absurd rfl (h _), fun q' hq' => ?_, fun q' hq' => ?_, fun q' hq' hf _ => by cases hf⟩
    · rw [hrcv, buf, if_neg (by simp [flyN])]
      by_cases e : q' = q
      · subst e; rw [hhp, hsnd]; rfl
      · have hne : L.ch q' ≠ L.ch q := fun e' => e (G.inj q' q hq' (by omega) e')
        rw [hAs.block _ hne, I.tk.chan q' hq', hrcv' q' e, buf, if_neg (fun e' => e (e'.1.trans hqt.symm))]
    · rcases I.tk.form with ⟨_, e⟩ | ⟨_, e, _⟩
      · omega
      · exact e
    · by_cases e : L.m0 + q' = L.m0 + q
      · rw [e, upd_same]; exact ⟨fun _ => rfl, fun _ => ⟨r, rfl⟩⟩
      · rw [upd_ne D _ e]
        constructor
        · intro hh
          have := (I.tk.hold q' hq').1 hh
          rw [this] at hfl
          cases hfl
        · intro e'
          simp only [Flow.held.injEq] at e'
          omega
    · rw [hrcv]
      by_cases e : L.m0 + q' = L.m0 + q
      · obtain rfl : q' = q := by omega
        rw [upd_same]
        simp only
        omega
      · rw [upd_ne D _ e, ← hrcv' q' (by omega)]
        exact I.tk.left q' hq'
  refine ⟨_, _, by simpa using hrunT, mu L (L.m0 + j) (upd D (L.m0 + q) ⟨2 * r + 9, m, 0⟩) tag f0, ?_, _, w', sl, j, s, .held (L.m0 + q), upd D (L.m0 + q) ⟨2 * r + 9, m, 0⟩, tag, f0, d0, a, st, sm, rfl, ⟨?_, I.cs.rely (.of_aside hAs (.inr (.inr ⟨q, by omega, rfl⟩)) fun e => absurd e hcW), ?_, I.wg.of_block (hAs.block _ (Ne.symm hcW)), I.mode.upd1 (.inl ⟨by simp, by omega⟩), htk, I.pre⟩, rfl⟩
  · unfold mu
    simp only [Vc, Ssum, Fsum] at *
    have ec : cnt (⟨2 * r + 9, m, 0⟩ : WD) = cnt (D (L.m0 + q)) := by simp only [cnt, hst]; rw [if_pos (by omega), if_pos (by omega)]
    have ev : (sumTo (L.m0 + j) fun a => cnt (upd D (L.m0 + q) ⟨2 * r + 9, m, 0⟩ a)) = sumTo (L.m0 + j) fun a => cnt (D a) := by omega
    rw [ev]
    exact Prod.Lex.left _ _ (by omega)
  · rw [Array.getElem?_setIfInBounds_ne (by omega)]; exact I.main
  · have hDq : ∀ g', Deaf (t ++ u) g' = Deaf t g' := fun g' => Deaf_quiet fun op hop d => (hmute op hop).2.2.2.2 g' d
    refine I.com.next G (fun b => b = L.m0 + q) (by simp) (fun b hb0 hb hbi x hx hw => ?_) (fun b hb => upd_ne D _ hb) (by omega) (fun q' hq' _ => hrw q' hq') (fun q' hq' hqi hh => ?_) htk.opens (fun b hb0 hb hbi => by omega) (fun q' hq' hqi => ?_)
      (I.com.tr.appMute hK (late_comm rfl fun op hop => ⟨by rw [(hmute op hop).1]; exact hi, (hmute op hop).2.1, (hmute op hop).2.2.1, (hmute op hop).2.2.2.1⟩) fun op hop => (hmute op hop).2.2.1)
      (by rw [hDq]; exact I.com.deaf0) (fun b hb0 hb => ?_) (fun b hb => by rw [hDq]; exact I.com.deafN b hb) (fun q' hq' hst' => ?_)
    · rw [Array.getElem?_setIfInBounds_ne (fun e => hbi e.symm)]; exact hx
    · have := (I.tk.hold q' hq').1 hh
      rw [this] at hfl
      cases hfl
    · obtain rfl : q' = q := by omega
      exact ⟨_, Array.getElem?_setIfInBounds_self_of_lt hisz, by rw [upd_same]; exact .hold hG⟩
    · rw [hDq, I.com.deafW b hb0 hb]
      by_cases e : b = L.m0 + q
      · subst e; rw [upd_same]; exact hde
      · rw [upd_ne D _ e]
    · by_cases e : L.m0 + q' = L.m0 + q
      · rw [e, upd_same] at hst'; simp at hst'
      · rw [upd_ne D _ e] at hst'
        obtain ⟨r', hr'⟩ := I.com.rel q' hq' hst'
        exact ⟨r', relby_mute hr' fun op hop => (hmute op hop).2.2.1⟩
end
end Go.Proofs.Ytejedbknpjffkaa.Rl
