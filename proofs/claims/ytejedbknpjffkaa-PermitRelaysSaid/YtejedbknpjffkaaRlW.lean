/- THE RELAY: a step of a worker's between its communications, and of whoever only leaves. -/
import Derived.Test.YtejedbknpjffkaaRlN
namespace Go.Proofs.Ytejedbknpjffkaa.Rl
open Go Go.Conc
open Go.ConcN (ShN WgLive RelBy RelBy.appOther RelBy.appNot RelBy.new RelBy.book upd upd_same upd_ne sumTo sumTo_upd sumTo_congr sumTo_le le_sumTo get_map_set get_map_set_same Deaf_still Deaf_absent bk_cell deafBehind_idle norel_of norel_of_Bk)
open Go.ConcR (KK wgBlock WgAt stA smA rd wr mk Bk bk_of_mute ofEvent_loc_mark ofEvent_cell ofEvent_mk loc_of_ofEvent g_of_ofEvents deafBehind_cons deafBehind_one)

theorem tok {L : Lay} (G : Geo L) : TOk L.tl := by
  refine ⟨G.m0, ?_, rfl, G.shS, ?_, ?_, ?_, G.shK⟩
  · rintro ⟨a, ha, hb⟩
    simp only [Lay.tl, Loc.cell.injEq] at ha
    subst ha
    exact G.hWS (by simpa [Lay.sumA, Lay.tl] using hb.symm)
  · rintro q l ⟨a, rfl, _⟩; rfl
  · rintro q l ⟨a, rfl, hk⟩ ⟨b, hb, hbw⟩
    simp only [Loc.cell.injEq] at hb
    subst hb
    exact (G.kbS q _ hk).1 hbw
  · rintro q l ⟨a, rfl, hk⟩ e
    simp only [Lay.tl, Loc.cell.injEq] at e
    subst e
    exact (G.kbS q _ hk).2 rfl

section
variable {L : Lay} {j q : Nat} {fn : FuncId} {pos : String} {es : Array Event}

theorem late_R (hq : q < j) (h : ∀ e ∈ es, EvR L q e) : ∀ op ∈ MemOp.ofEvents (L.m0 + q) fn pos es, op.g = L.m0 + q ∧ LateOp L.tl j op ∧ ∀ x, op.act.touch? = some x → x.loc ≠ L.tl.sumL ∨ x.loc = L.tl.sumL := by
  intro op hop
  obtain ⟨e, he, rfl⟩ := Go.Conc.mem_ofEvents hop
  obtain ⟨h1, _, _, h4, h5⟩ := h e he
  refine ⟨rfl, ⟨h5, by simp only [Lay.tl]; omega, fun hx => h4 (loc_of_ofEvent hx), fun x hx => .inr ⟨by simp only [Lay.tl]; omega, .inr ?_⟩⟩, fun x _ => by by_cases e : x.loc = L.tl.sumL <;> simp [e]⟩
  obtain ⟨a, b, c⟩ := h1 x hx
  exact ⟨a, .inr ⟨b, by simpa [Lay.tl] using c⟩⟩
theorem late_H (hq : q < j) (h : ∀ e ∈ es, EvH L q e) : ∀ op ∈ MemOp.ofEvents (L.m0 + q) fn pos es, op.g = L.m0 + q ∧ LateOp L.tl j op := by
  intro op hop
  obtain ⟨e, he, rfl⟩ := Go.Conc.mem_ofEvents hop
  obtain ⟨h1, _, _, h4, h5⟩ := h e he
  refine ⟨rfl, ⟨h5, by simp only [Lay.tl]; omega, fun hx => h4 (loc_of_ofEvent hx), fun x hx => .inr ⟨by simp only [Lay.tl]; omega, .inr ?_⟩⟩⟩
  obtain ⟨a, b⟩ := h1 x hx
  exact ⟨a, b.imp id fun c => ⟨c.1, by simpa [Lay.tl] using c.2⟩⟩
/-- The library's bookkeeping, a worker's. -/
theorem late_Bk (G : Geo L) (hq : q < j) (h : ∀ e ∈ es, Bk L.Wg e) : ∀ op ∈ MemOp.ofEvents (L.m0 + q) fn pos es, op.g = L.m0 + q ∧ LateOp L.tl j op ∧ ∀ x, op.act.touch? = some x → ShN L.Wg x.loc := by
  intro op hop
  obtain ⟨e, he, rfl⟩ := Go.Conc.mem_ofEvents hop
  have hlow : L.Wg < L.B := by have := G.hWg; have := G.hB; omega
  rcases h e he with h1 | h1 | ⟨a, wr, rfl, ha⟩
  · have e1 : MemAct.ofEvent e = .mark .disable := ofEvent_loc_mark h1
    exact ⟨rfl, ⟨by rw [e1]; trivial, by simp only [Lay.tl]; omega, by rw [e1]; simp, fun x hx => by rw [e1] at hx; cases hx⟩, fun x hx => by rw [e1] at hx; cases hx⟩
  · have e1 : MemAct.ofEvent e = .mark .enable := ofEvent_loc_mark h1
    exact ⟨rfl, ⟨by rw [e1]; trivial, by simp only [Lay.tl]; omega, by rw [e1]; simp, fun x hx => by rw [e1] at hx; cases hx⟩, fun x hx => by rw [e1] at hx; cases hx⟩
  · have e1 : MemAct.ofEvent ⟨.cell a, wr, true⟩ = .access ⟨.cell a, wr, true⟩ := ofEvent_cell ..
    have e2 : ∀ x, (MemAct.ofEvent ⟨.cell a, wr, true⟩).touch? = some x → x = ⟨.cell a, wr, .atomic⟩ := fun x hx => by
      rw [e1] at hx; simpa [MemAct.touch?] using hx.symm
    refine ⟨rfl, ⟨?_, by simp only [Lay.tl]; omega, by rw [e1]; simp, fun x hx => ?_⟩, fun x hx => ?_⟩
    · rw [e1]
      show a.block < L.B
      omega
    · obtain rfl := e2 x hx
      exact .inr ⟨by simp only [Lay.tl]; omega, .inl ⟨⟨a, rfl, ha⟩, rfl⟩⟩
    · obtain rfl := e2 x hx
      exact ⟨a, rfl, ha⟩
/-- One mark of the library's on the group, whoever's. -/
theorem late_mark (G : Geo L) {i : Nat} (hi : i < L.m0 + j) {m : Mark} (hm : m = .releaseMerge (stA L.Wg) ∨ m = .acquire (stA L.Wg) ∨ m = .disable ∨ m = .enable) (he : ∀ e ∈ es, e = mk m) :
    ∀ op ∈ MemOp.ofEvents i fn pos es, op.g = i ∧ LateOp L.tl j op ∧ op.act.touch? = none := by
  intro op hop
  obtain ⟨e, hes, rfl⟩ := Go.Conc.mem_ofEvents hop
  obtain rfl := he e hes
  have hlow : L.Wg < L.B := by have := G.hWg; have := G.hB; omega
  have hn : (MemAct.ofEvent (mk m)).touch? = none := by rcases hm with rfl | rfl | rfl | rfl <;> rfl
  refine ⟨rfl, ⟨?_, hi, ?_, fun x hx => by rw [hn] at hx; cases hx⟩, hn⟩
  · rcases hm with rfl | rfl | rfl | rfl
    · exact hlow
    · exact hlow
    · trivial
    · trivial
  · rcases hm with rfl | rfl | rfl | rfl <;> simp [mk, MemAct.ofEvent]
theorem act_mute' {e : Event} (h : e.mute = true) : MemAct.ofEvent e = .mark .disable ∨ MemAct.ofEvent e = .mark .enable := by
  obtain ⟨loc, wr, sy⟩ := e
  cases loc <;> simp_all [Event.mute]
  rename_i m
  cases m <;> simp_all [MemAct.ofEvent]
theorem late_mute {i : Nat} (hi : i < L.m0 + j) (h : ∀ e ∈ es, e.mute = true) : ∀ op ∈ MemOp.ofEvents i fn pos es, op.g = i ∧ LateOp L.tl j op ∧ op.act.touch? = none := by
  intro op hop
  obtain ⟨e, hes, rfl⟩ := Go.Conc.mem_ofEvents hop
  have hn := touch_mute (h e hes)
  refine ⟨rfl, ⟨low_mute (h e hes) _, hi, ?_, fun x hx => by rw [hn] at hx; cases hx⟩, hn⟩
  rcases act_mute' (h e hes) with e1 | e1 <;> rw [e1] <;> simp
end

section
variable {L : Lay} {Anch Back : Goroutine → World → Prop} {t₀ t : Trace} {B₀ j s : Nat} {f : Flow} {gs : Array Goroutine} {w : World} {sl : Option (Nat × Nat)} {D : Nat → WD} {tag : Tag} {f0 d0 : Nat} {a : Goroutine} {st sm : Int}

theorem chan_aside {b : Nat} {w w' : World} (G : Geo L) (h : Aside b w w') (hb : b = L.Wg ∨ b = L.Sm) : ∀ q, q < L.n → w'.heap[L.ch q]? = w.heap[L.ch q]? := fun q hq => h.block _ (by
  rcases hb with rfl | rfl
  · exact G.hcW q hq
  · exact G.hcS q hq)

/-- Whoever only leaves. -/
theorem stepQuit (G : Geo L) (hAr : ∀ g w, Anch g w → g.status = .running) (I : InvAt L Anch Back t₀ gs w j s f D tag f0 d0 a st sm t) {i : Nat} (h0 : 0 < i) (hi : i < L.m0 + j) {g : Goroutine} (hg : gs[i]? = some g) (hrun : g.status = .running)
    (hst : (D i).stage = 1) (hq : QuitsD L.P (D i).fuel (D i).deaf g) :
    ∃ m₁ ops, runT L.P (crowd gs w sl) i = (.next m₁, ops) ∧ ∃ μ', Lt2 μ' (mu L (L.m0 + j) D tag f0) ∧ Inv L Anch Back t₀ μ' m₁ (t ++ ops) := by
  generalize hfu : (D i).fuel = fu at hq
  generalize hde : (D i).deaf = dd at hq
  cases fu with
  | zero => rw [hq.1] at hrun; cases hrun
  | succ k =>
    rcases hq with ⟨hf, _⟩ | ⟨_, g', es, hmute, hstep, hq'⟩
    · rw [hf] at hrun; cases hrun
    have hl : ∀ op ∈ MemOp.ofEvents i g.frame.fn g.frame.place es, op.g = i ∧ LateOp L.tl j op ∧ op.act.touch? = none := late_mute hi hmute
    refine goW (y := ⟨1, k, deafBehind dd es⟩) G hAr I h0 hi hg (hstep w) (.refl w) (fun q _ _ => .refl w) (fun q _ _ _ => rfl) (fun _ => ⟨rfl, hq'⟩) (fun q _ => .quit hq')
      (I.com.tr.appMute (fun _ => SumK.app) (fun op hop => (hl op hop).2.1) (fun op hop => (hl op hop).2.2)) (by rw [hde]) (fun q hiq _ => ?_) I.wg (fun tag' ht _ => (I.mode.upd1 (.inr (by rw [hst]))).retag ht)
      (I.tk.same (fun _ _ => rfl) (fun _ => rfl) i (by rw [hst]) (by rw [hst]) (fun hp => absurd hp (not_parked (by simp)))) (.inr ⟨by rw [hst], by rw [hfu]⟩)
    subst hiq
    obtain ⟨r, hr⟩ := I.com.rel q (by omega) (by rw [hst]; omega)
    exact ⟨r, relby_mute hr fun op hop => (hl op hop).2.2⟩

set_option maxHeartbeats 1600000 in
/-- A worker's step; or it stands at a communication. -/
theorem stepWk (G : Geo L) (H : T0 L.tl B₀ t₀) (hAr : ∀ g w, Anch g w → g.status = .running) (I : InvAt L Anch Back t₀ gs w j s f D tag f0 d0 a st sm t) (hjt : j + pend tag ≤ L.n) {q : Nat} (hq : q < j) {g : Goroutine} (hg : gs[L.m0 + q]? = some g) (hrun : g.status = .running) :
    (∃ m₁ ops, runT L.P (crowd gs w sl) (L.m0 + q) = (.next m₁, ops) ∧ ∃ μ', Lt2 μ' (mu L (L.m0 + j) D tag f0) ∧ Inv L Anch Back t₀ μ' m₁ (t ++ ops)) ∨
    (∃ r, (D (L.m0 + q)).stage = 2 * r + 10 ∧ 1 ≤ (D (L.m0 + q)).fuel ∧ (D (L.m0 + q)).deaf = 0 ∧ AtSeat L q (HoldN L q r) g w) ∨
    (∃ r, (D (L.m0 + q)).stage = 2 * r + 9 ∧ (D (L.m0 + q)).deaf = 0 ∧ AtSend L q (s - 1) (Cont L q r) g w) := by
  have O := tok G
  have hm0 := G.m0
  have hn2 := G.n2
  obtain ⟨g₁, hg₁, hs⟩ := I.com.wk q hq
  obtain rfl : g = g₁ := by rw [hg] at hg₁; exact Option.some.inj hg₁
  have hi : L.m0 + q < L.m0 + j := by omega
  have h0 : 0 < L.m0 + q := by omega
  have hdk := I.com.deafW (L.m0 + q) h0 hi
  generalize hst : (D (L.m0 + q)).stage = stg at hs
  generalize hfu : (D (L.m0 + q)).fuel = fu at hs
  generalize hde : (D (L.m0 + q)).deaf = dd at hs hdk
  have hmode := I.mode
  have hwg := I.wg
  have hVM := Vc_le (L.m0 + j) D
  -- a step of the library's bookkeeping
  have bookG : ∀ {g' : Goroutine} {w' : World} {es : Array Event} {y : WD} {st' sm' : Int}, stepG L.P false g w = .go g' w' es → Aside L.Wg w w' → WgAt L.ty L.Wg w' st' sm' → (∀ e ∈ es, Bk L.Wg e) →
      (∀ jx e, es[jx]? = some e → (MemAct.ofEvent e).touch? = none ∨ 0 < deafBehind dd (es.extract 0 jx)) → WS L q (s - 1) y.stage y.fuel y.deaf g' w' → deafBehind dd es = y.deaf → stg ≤ 6 → y.stage ≤ 6 →
      (∀ tag', (tag' = tag ∨ (tag = .blk ∧ tag' = .w3)) → (mayWake L.P g = true → g'.status = .running → tag' ≠ .blk) → Mode (L.m0 + j) (upd D (L.m0 + q) y) tag' st' sm') → ((y.stage < stg ∧ cnt y ≤ cnt (D (L.m0 + q))) ∨ (y.stage = stg ∧ y.fuel + 1 = fu)) →
      ∃ m₁ ops, runT L.P (crowd gs w sl) (L.m0 + q) = (.next m₁, ops) ∧ ∃ μ', Lt2 μ' (mu L (L.m0 + j) D tag f0) ∧ Inv L Anch Back t₀ μ' m₁ (t ++ ops) := by
    intro g' w' es y st' sm' hgo hAs hwg' hbk hd hs' hdd h6 hy6 hmode' hlt
    have hl : ∀ op ∈ MemOp.ofEvents (L.m0 + q) g.frame.fn g.frame.place es, op.g = L.m0 + q ∧ LateOp L.tl j op ∧ ∀ x, op.act.touch? = some x → ShN L.Wg x.loc := late_Bk G hq hbk
    refine goW (y := y) G hAr I h0 hi hg hgo (.of_aside hAs (.inl rfl) fun _ => ⟨_, _, hwg'⟩) (fun q' _ _ => .of_aside hAs (fun hk => (G.kbS q' _ hk).1 rfl) fun _ => ⟨_, _, hwg'⟩) (fun q' _ _ _ => hAs.block _ (Ne.symm G.hWS)) (fun h => by omega)
      (fun q' e => by obtain rfl : q' = q := by omega
                      exact hs')
      (I.com.tr.appW H O hq (fun op hop => (hl op hop).1) (fun op hop => (hl op hop).2.1) (fun _ => SumK.app) fun op hop x hx hxs => absurd (hxs ▸ (hl op hop).2.2 x hx) O.sumSh) (by rw [hde]; exact hdd) (fun q' e _ => ?_) hwg' hmode'
      (I.tk.same (chan_aside G hAs (.inl rfl)) (fun _ => hAs.block _ (Ne.symm G.hWS)) _ (by rw [hst]; omega) (iff_of_false (not_holds (by omega)) (not_holds (by omega))) (fun hp => absurd hp (not_parked (by omega)))) (by rw [hst, hfu]; exact hlt)
    obtain ⟨r, hr⟩ := I.com.rel q hq (by omega)
    exact ⟨r, hr.book hdk _ _ hbk hd⟩
  have book : ∀ {g' : Goroutine} {w' : World} {es : Array Event} {y : WD} {st' sm' : Int}, stepG L.P false g w = .go g' w' es → Aside L.Wg w w' → WgAt L.ty L.Wg w' st' sm' → (∀ e ∈ es, Bk L.Wg e) →
      (∀ jx e, es[jx]? = some e → (MemAct.ofEvent e).touch? = none ∨ 0 < deafBehind dd (es.extract 0 jx)) → WS L q (s - 1) y.stage y.fuel y.deaf g' w' → deafBehind dd es = y.deaf → stg ≤ 6 → y.stage ≤ 6 →
      Mode (L.m0 + j) (upd D (L.m0 + q) y) tag st' sm' → ((y.stage < stg ∧ cnt y ≤ cnt (D (L.m0 + q))) ∨ (y.stage = stg ∧ y.fuel + 1 = fu)) →
      ∃ m₁ ops, runT L.P (crowd gs w sl) (L.m0 + q) = (.next m₁, ops) ∧ ∃ μ', Lt2 μ' (mu L (L.m0 + j) D tag f0) ∧ Inv L Anch Back t₀ μ' m₁ (t ++ ops) :=
    fun hgo hAs hwg' hbk hd hs' hdd h6 hy6 hmode' hlt => bookG hgo hAs hwg' hbk hd hs' hdd h6 hy6 (fun _ ht _ => hmode'.retag ht) hlt
  -- a step behind the release that turns and lists nothing
  have idle : ∀ {g' : Goroutine} {m' : Nat}, stepG L.P false g w = .go g' w #[] → WS L q (s - 1) stg m' dd g' w → m' + 1 = fu → stg ≤ 6 →
      ∃ m₁ ops, runT L.P (crowd gs w sl) (L.m0 + q) = (.next m₁, ops) ∧ ∃ μ', Lt2 μ' (mu L (L.m0 + j) D tag f0) ∧ Inv L Anch Back t₀ μ' m₁ (t ++ ops) := by
    intro g' m' hgo hs' hm h6
    exact book (y := ⟨stg, m', dd⟩) hgo (.refl L.Wg w) hwg (by simp) (by simp) hs' rfl h6 h6 (hmode.upd1 (.inr (by rw [hst]))) (.inr ⟨rfl, hm⟩)
  cases hs with
  | seat h =>
    rename_i r m
    rcases Goes.cases h with hstop | ⟨m', rfl, hstep⟩
    · exact .inr (.inl ⟨r, rfl, by omega, rfl, hstop w (.refl w)⟩)
    · obtain ⟨g', w', es, hgo, ⟨rfl, hev⟩, hg'⟩ := hstep w (.refl w)
      have hl := late_R (fn := g.frame.fn) (pos := g.frame.place) hq hev
      refine .inl (goW (y := ⟨2 * r + 10, m' + 1, 0⟩) G hAr I h0 hi hg hgo (.refl _) (fun _ _ _ => .refl _) (fun _ _ _ _ => rfl) (fun h => by omega)
        (fun q' e => by obtain rfl : q' = q := by omega
                        exact .seat hg')
        (I.com.tr.appW H O hq (fun op hop => (hl op hop).1) (fun op hop => (hl op hop).2.1) (fun _ => SumK.app) fun op hop x hx hxs => ?_) (by rw [hde]; exact deafBehind_idle (fun e he => ⟨(hev e he).2.1, (hev e he).2.2.1⟩) 0) (fun q' e h6 => by simp at h6) hwg
        (fun tag' ht _ => (hmode.upd1 (.inr (by rw [hst]))).retag ht) (I.tk.same (fun _ _ => rfl) (fun _ => rfl) _ (by rw [hst]) (by rw [hst]) (fun hp => absurd hp.2 (by simp))) (.inr ⟨by rw [hst], by rw [hfu]⟩))
      obtain ⟨e, he, rfl⟩ := Go.Conc.mem_ofEvents hop
      exact absurd hxs (O.stSum q _ ((hev e he).1 x hx).2.2)
  | park h => exact absurd hrun (by simp [parked])
  | hold h =>
    rename_i r
    rcases Goes.cases h with hstop | ⟨m', rfl, hstep⟩
    · exact .inr (.inr ⟨r, rfl, rfl, hstop w (.refl w)⟩)
    · obtain ⟨g', w', es, hgo, ⟨hAs, hev⟩, hg'⟩ := hstep w (.refl w)
      have hl := late_H (fn := g.frame.fn) (pos := g.frame.place) hq hev
      have hf : f = .held (L.m0 + q) := (I.tk.hold q hq).1 ⟨r, hst⟩
      have hlive : WgLive L.ty L.Wg w → WgLive L.ty L.Wg w' := live_of_block (hAs.block _ G.hWS)
      refine .inl (goW (y := ⟨2 * r + 9, m', 0⟩) G hAr I h0 hi hg hgo (.of_aside hAs (.inr (.inl rfl)) fun e => absurd e.symm G.hWS) (fun q' _ _ => .of_aside hAs (fun hk => (G.kbS q' _ hk).2 rfl) fun e => absurd e.symm G.hWS)
        (fun q' hq' hne hh => ?_) (fun h => by omega)
        (fun q' e => by obtain rfl : q' = q := by omega
                        exact .hold hg')
        (I.com.tr.appW H O hq (fun op hop => (hl op hop).1) (fun op hop => (hl op hop).2) (fun _ => SumK.app) fun op hop x hx hxs => ?_) (by rw [hde]; exact deafBehind_idle (fun e he => ⟨(hev e he).2.1, (hev e he).2.2.1⟩) 0) (fun q' e h6 => by simp at h6) (hwg.of_block (hAs.block _ G.hWS))
        (fun tag' ht _ => (hmode.upd1 (.inr (by rw [hst]))).retag ht) (I.tk.same (chan_aside G hAs (.inr rfl)) (fun hne => absurd hf (hne _)) _ (by rw [hst]) (by rw [hst]) (fun ⟨⟨r', e⟩, _⟩ => by simp only at e; omega)) (.inr ⟨by rw [hst], by rw [hfu]⟩))
      · have := (I.tk.hold q' hq').1 hh
        rw [hf] at this
        simp only [Flow.held.injEq] at this
        omega
      · subst hf
        exact ⟨fun i hk => hk, fun i hk => hk⟩
  | r0 h =>
    rcases Goes.cases h with hstop | ⟨m', rfl, hstep⟩
    · obtain ⟨_, g', hgo, m₂, hk⟩ := hstop w (.refl w)
      have hl : ∀ op ∈ MemOp.ofEvents (L.m0 + q) g.frame.fn g.frame.place #[mk (.releaseMerge (stA L.Wg))], op.g = L.m0 + q ∧ LateOp L.tl j op ∧ op.act.touch? = none := late_mark G hi (.inl rfl) (by intro e he; simpa using he)
      exact .inl (goW (y := ⟨6, m₂, 0⟩) G hAr I h0 hi hg hgo (.refl _) (fun _ _ _ => .refl _) (fun _ _ _ _ => rfl) (fun h => by omega)
        (fun q' e => by obtain rfl : q' = q := by omega
                        exact .k1 hk)
        (I.com.tr.appMute (fun _ => SumK.app) (fun op hop => (hl op hop).2.1) (fun op hop => (hl op hop).2.2)) (by rw [hde]; rfl) (fun q' e h6 => ⟨t.size, RelBy.new hdk _ _⟩) hwg
        (fun tag' ht _ => (hmode.upd1 (.inl ⟨by simp, by omega⟩)).retag ht) (I.tk.same (fun _ _ => rfl) (fun _ => rfl) _ (by simp [hst]) (iff_of_false (not_holds (by simp)) (not_holds (by omega))) (fun hp => absurd hp (not_parked (by simp)))) (.inl ⟨by rw [hst]; simp, by simp [cnt, hst]⟩))
    · obtain ⟨g', w', es, hgo, ⟨rfl, hev⟩, hg'⟩ := hstep w (.refl w)
      have hl := late_R (fn := g.frame.fn) (pos := g.frame.place) hq hev
      refine .inl (goW (y := ⟨7, m', 0⟩) G hAr I h0 hi hg hgo (.refl _) (fun _ _ _ => .refl _) (fun _ _ _ _ => rfl) (fun h => by omega)
        (fun q' e => by obtain rfl : q' = q := by omega
                        exact .r0 hg')
        (I.com.tr.appW H O hq (fun op hop => (hl op hop).1) (fun op hop => (hl op hop).2.1) (fun _ => SumK.app) fun op hop x hx hxs => ?_) (by rw [hde]; exact deafBehind_idle (fun e he => ⟨(hev e he).2.1, (hev e he).2.2.1⟩) 0) (fun q' e h6 => by simp at h6) hwg
        (fun tag' ht _ => (hmode.upd1 (.inr (by rw [hst]))).retag ht) (I.tk.same (fun _ _ => rfl) (fun _ => rfl) _ (by rw [hst]) (by rw [hst]) (fun hp => absurd hp (not_parked (by simp)))) (.inr ⟨by rw [hst], by rw [hfu]⟩))
      obtain ⟨e, he, rfl⟩ := Go.Conc.mem_ofEvents hop
      exact absurd hxs (O.stSum q _ ((hev e he).1 x hx).2.2)
  | k1 h =>
    refine .inl ?_
    rcases Goes.cases h with hstop | ⟨m', rfl, hstep⟩
    · obtain ⟨_, g', hgo, m₂, hk⟩ := hstop w id
      exact book (y := ⟨5, m₂, 1⟩) hgo (.refl _ w) hwg (by intro e he; simp at he; subst he; exact .inl rfl) (by intro jx e he; exact .inl (by have := Array.mem_of_getElem? he; simp at this; subst this; rfl)) (.d1 hk) rfl (by omega) (by simp)
        (hmode.upd1 (.inl ⟨by simp, by omega⟩)) (.inl ⟨by simp, by simp [cnt, hst]⟩)
    · obtain ⟨g', w', es, hgo, ⟨rfl, rfl⟩, hg'⟩ := hstep w id
      exact idle hgo (.k1 hg') rfl (by omega)
  | d1 h =>
    refine .inl ?_
    rcases Goes.cases h with hstop | ⟨m', rfl, hstep⟩
    · obtain ⟨_, hall⟩ := hstop w id
      have hc1 : cnt (D (L.m0 + q)) = 1 := by simp [cnt, hst]
      have hV1 : 1 ≤ Vc (L.m0 + j) D := by have := le_sumTo (f := fun x => cnt (D x)) hi; simp only [Vc]; omega
      have hVj : Vc (L.m0 + j) D ≤ j := Vc_le' (fun b hb => by
        rcases Nat.eq_zero_or_pos b with rfl | hp
        · rw [I.com.z]
        · exact (I.com.old b hp hb).choose_spec.2.1) j
      have bk2 : ∀ e ∈ #[rd (stA L.Wg), wr (stA L.Wg)], Bk L.Wg e := by intro e he; simp at he; rcases he with rfl | rfl <;> exact bk_cell _ _ rfl
      have df2 : ∀ jx e, (#[rd (stA L.Wg), wr (stA L.Wg)] : Array Event)[jx]? = some e → (MemAct.ofEvent e).touch? = none ∨ 0 < deafBehind 1 ((#[rd (stA L.Wg), wr (stA L.Wg)] : Array Event).extract 0 jx) := by
        intro jx e he
        match jx, he with
        | 0, _ => exact .inr (by simp [deafBehind])
        | 1, _ => exact .inr (by simp [deafBehind, rd])
        | jx + 2, he => simp at he
      have hq0 : ∀ q, cnt (⟨1, q, 1⟩ : WD) = 0 := fun _ => rfl
      have opq : ∀ y : WD, y.stage = 1 → OpenSt (L.m0 + j) D → OpenSt (L.m0 + j) (upd D (L.m0 + q) y) := fun y hy h a ha => by
        by_cases e : a = L.m0 + q
        · rw [e, upd_same]; exact .inr hy
        · rw [upd_ne D _ e]; exact h a ha
      cases hmode with
      | opn h1 h2 h3 =>
        obtain ⟨v, hv⟩ : ∃ v, Vc (L.m0 + j) D + pend tag = v + 1 := ⟨Vc (L.m0 + j) D + pend tag - 1, by omega⟩
        rw [hv] at hwg
        have hw1 : WgAt L.ty L.Wg w (((v : Nat) + 1) * KK + ((0 : Nat) : Int)) 0 := by simpa using hwg
        obtain ⟨g', hgo, _, hqt⟩ := hall v 0 (by omega) (by omega) hw1
        obtain ⟨z, hqt⟩ := hqt (by omega)
        have hv' : Vc (L.m0 + j) (upd D (L.m0 + q) ⟨1, z, 1⟩) + pend tag = v := by have := Vc_upd D (⟨1, z, 1⟩ : WD) hi; have := hq0 z; omega
        refine book (y := ⟨1, z, 1⟩) hgo (aside_setCell w (stA L.Wg) _) (hwg.setSt _) bk2 df2 (.quit hqt) rfl (by omega) (by simp) ?_ (.inl ⟨by simp, by simp [cnt]⟩)
        have e : ((v : Nat) : Int) * KK + ((0 : Nat) : Int) = ((Vc (L.m0 + j) (upd D (L.m0 + q) ⟨1, z, 1⟩) + pend tag : Nat) : Int) * KK := by rw [hv']; simp
        rw [e]
        exact .opn h1 (opq _ rfl h2) (fun vs ev => by have := h3 vs ev; omega)
      | reg h1 h2 h3 =>
        obtain ⟨v, hv⟩ : ∃ v, Vc (L.m0 + j) D = v + 1 := ⟨Vc (L.m0 + j) D - 1, by omega⟩
        rw [hv] at hwg
        have hw1 : WgAt L.ty L.Wg w (((v : Nat) + 1) * KK + ((1 : Nat) : Int)) 0 := by simpa using hwg
        obtain ⟨g', hgo, hl, hqt⟩ := hall v 1 (by omega) (by omega) hw1
        by_cases hv0 : v = 0
        · subst hv0
          obtain ⟨m₂, hk⟩ := hl ⟨rfl, rfl⟩
          refine book (y := ⟨4, m₂, 1⟩) hgo (aside_setCell w (stA L.Wg) _) (hwg.setSt _) bk2 df2 (.d2 hk) rfl (by omega) (by simp) ?_ (.inl ⟨by simp, by simp [cnt]⟩)
          have hoth : ∀ a, a < L.m0 + j → a ≠ L.m0 + q → (D a).stage = 1 := fun a ha e => by
            have c0 := others_uncounted hi hv hc1 a ha e
            have := h2 a ha
            simp only [cnt] at c0
            split at c0 <;> omega
          have := Mode.last (M := L.m0 + j) (D := upd D (L.m0 + q) ⟨4, m₂, 1⟩) (tag := tag) (L.m0 + q) h1 hi (by rw [upd_same]; simp) (fun a ha e => by rw [upd_ne D _ e]; exact hoth a ha e)
          rw [upd_same] at this
          simpa using this
        · obtain ⟨z, hqt⟩ := hqt (by omega)
          have hv' : Vc (L.m0 + j) (upd D (L.m0 + q) ⟨1, z, 1⟩) = v := by have := Vc_upd D (⟨1, z, 1⟩ : WD) hi; have := hq0 z; omega
          refine book (y := ⟨1, z, 1⟩) hgo (aside_setCell w (stA L.Wg) _) (hwg.setSt _) bk2 df2 (.quit hqt) rfl (by omega) (by simp) ?_ (.inl ⟨by simp, by simp [cnt]⟩)
          have e : ((v : Nat) : Int) * KK + ((1 : Nat) : Int) = ((Vc (L.m0 + j) (upd D (L.m0 + q) ⟨1, z, 1⟩) : Nat) : Int) * KK + 1 := by rw [hv']; simp
          rw [e]
          exact .reg h1 (opq _ rfl h2) (by omega)
      | last z _ h2 h3 h4 =>
        by_cases e : L.m0 + q = z
        · subst e; omega
        · have := h4 _ hi e; omega
      | sema h2 => have := h2 _ hi; omega
      | fin _ h2 => have := h2 _ hi; omega
    · obtain ⟨g', w', es, hgo, ⟨rfl, rfl⟩, hg'⟩ := hstep w id
      exact idle hgo (.d1 hg') rfl (by omega)
  | d2 h =>
    refine .inl ?_
    rcases Goes.cases h with hstop | ⟨m', rfl, hstep⟩
    · obtain ⟨_, hx⟩ := hstop w id
      obtain ⟨hW3, hoth, e1, e2⟩ := hmode.isLast hi (by omega)
      rw [hst] at e1
      subst e1 e2
      obtain ⟨g', hgo, m₂, hk⟩ := hx (by simpa using hwg)
      refine book (y := ⟨3, m₂, 1⟩) hgo (.refl _ w) hwg (by intro e he; simp at he; subst he; exact bk_cell _ _ rfl) (by intro jx e he; match jx, he with | 0, _ => exact .inr (by simp [deafBehind]) | jx + 1, he => simp at he) (.d3 hk) rfl (by omega) (by simp) ?_ (.inl ⟨by simp, by simp [cnt]⟩)
      have := Mode.last (M := L.m0 + j) (D := upd D (L.m0 + q) ⟨3, m₂, 1⟩) (tag := tag) (L.m0 + q) hW3 hi (by rw [upd_same]; simp) (fun a ha e => by rw [upd_ne D _ e]; exact hoth a ha e)
      rw [upd_same] at this
      simpa using this
    · obtain ⟨g', w', es, hgo, ⟨rfl, rfl⟩, hg'⟩ := hstep w id
      exact idle hgo (.d2 hg') rfl (by omega)
  | d3 h =>
    refine .inl ?_
    rcases Goes.cases h with hstop | ⟨m', rfl, hstep⟩
    · obtain ⟨_, hx⟩ := hstop w id
      obtain ⟨hW3, hoth, e1, e2⟩ := hmode.isLast hi (by omega)
      rw [hst] at e1
      subst e1 e2
      obtain ⟨g', hgo, m₂, hk⟩ := hx (by simpa using hwg)
      refine book (y := ⟨2, m₂, 1⟩) hgo (aside_setCell w (stA L.Wg) _) (hwg.setSt 0) (by intro e he; simp at he; subst he; exact bk_cell _ _ rfl) (by intro jx e he; match jx, he with | 0, _ => exact .inr (by simp [deafBehind]) | jx + 1, he => simp at he) (.d4 hk) rfl (by omega) (by simp) ?_ (.inl ⟨by simp, by simp [cnt]⟩)
      have := Mode.last (M := L.m0 + j) (D := upd D (L.m0 + q) ⟨2, m₂, 1⟩) (tag := tag) (L.m0 + q) hW3 hi (by rw [upd_same]; simp) (fun a ha e => by rw [upd_ne D _ e]; exact hoth a ha e)
      rw [upd_same] at this
      simpa using this
    · obtain ⟨g', w', es, hgo, ⟨rfl, rfl⟩, hg'⟩ := hstep w id
      exact idle hgo (.d3 hg') rfl (by omega)
  | d4 h =>
    refine .inl ?_
    rcases Goes.cases h with hstop | ⟨m', rfl, hstep⟩
    · obtain ⟨_, hmw, hx⟩ := hstop w id
      obtain ⟨hW3, hoth, e1, e2⟩ := hmode.isLast hi (by omega)
      rw [hst] at e1
      subst e1 e2
      obtain ⟨g', hgo, z, hqt⟩ := hx (by simpa using hwg)
      have hrun' : g'.status = .running := by
        cases z with
        | zero => exact absurd hqt.2 (by decide)
        | succ z => exact hqt.elim (fun x => absurd x.2 (by decide)) (fun x => x.1)
      refine bookG (y := ⟨1, z, 1⟩) hgo (aside_setCell w (smA L.Wg) _) (hwg.setSm 1) (es := semEvents (smA L.Wg)) ?_ ?_ (.quit hqt) (by simp [deafBehind, semEvents]) (by omega) (by simp) ?_ (.inl ⟨by simp, by simp [cnt]⟩)
      · intro e he
        simp [semEvents] at he
        rcases he with rfl | rfl | rfl | rfl
        · exact .inl rfl
        · exact bk_cell _ _ rfl
        · exact bk_cell _ _ rfl
        · exact .inr (.inl rfl)
      · intro jx e he
        match jx, he with
        | 0, he => simp [semEvents] at he; subst he; exact .inl rfl
        | 1, _ => exact .inr (by simp [deafBehind, semEvents])
        | 2, _ => exact .inr (by simp [deafBehind, semEvents])
        | 3, he => simp [semEvents] at he; subst he; exact .inl rfl
        | jx + 4, he => simp [semEvents] at he
      · intro tag' ht hw
        have hnb := hw hmw hrun'
        have e3 : tag' = .w3 := by
          rcases ht with rfl | ⟨_, rfl⟩
          · cases tag' <;> first | rfl | exact hW3.elim | exact absurd rfl hnb
          · rfl
        subst e3
        simp only [if_true]
        exact .sema fun a ha => by
          by_cases e : a = L.m0 + q
          · rw [e, upd_same]
          · rw [upd_ne D _ e]; exact hoth a ha e
    · obtain ⟨g', w', es, hgo, ⟨rfl, rfl⟩, hg'⟩ := hstep w id
      exact idle hgo (.d4 hg') rfl (by omega)
  | quit h =>
    exact .inl (stepQuit G hAr I h0 hi hg hrun hst (by rw [hfu, hde]; exact h))
end
end Go.Proofs.Ytejedbknpjffkaa.Rl
