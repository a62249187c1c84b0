/- THE RELAY: whoever has the handed cell gives it to the next: into the hands of who is parked there, or into the channel's room. -/
import Derived.Test.YtejedbknpjffkaaRlC
namespace Go.Proofs.Ytejedbknpjffkaa.Rl
open Go Go.Conc
open Go.ConcN (ShN WgLive RelBy RelBy.appOther RelBy.appNot RelBy.new RelBy.book upd upd_same upd_ne sumTo sumTo_upd sumTo_congr sumTo_le le_sumTo get_map_set get_map_set_same Deaf_still Deaf_absent bk_cell deafBehind_idle norel_of norel_of_Bk)
open Go.ConcR (KK wgBlock WgAt stA smA rd wr mk Bk bk_of_mute ofEvent_loc_mark ofEvent_cell ofEvent_mk loc_of_ofEvent g_of_ofEvents deafBehind_cons deafBehind_one)

def UT : Value := .tuple #[goInt 0, .bool false]
theorem finishComm_give (P : Program) (g : Goroutine) (c : Nat) : g.finishComm P #[scase c U U] .select 0 undef false = Go.Conc.served g UT := by
  unfold Goroutine.finishComm Go.Conc.served UT
  simp [commResult, scase]

theorem ofEvents_none (i : Nat) (fn : FuncId) (pos : String) : MemOp.ofEvents i fn pos #[] = #[] := by rw [ofEvents_eq]; simp

section
variable {L : Lay} {Anch Back : Goroutine → World → Prop} {t₀ t : Trace} {B₀ j s : Nat} {f : Flow} {gs : Array Goroutine} {w : World} {sl : Option (Nat × Nat)} {D : Nat → WD} {tag : Tag} {f0 d0 : Nat} {a : Goroutine} {st sm : Int}

/-- What a give leaves. -/
structure Given (L : Lay) (t₀ t : Trace) (j s : Nat) (gs : Array Goroutine) (w : World) (sl : Option (Nat × Nat)) (D : Nat → WD) (d0 i : Nat) (g' : Goroutine) (y : WD) (f' : Flow) (gs' : Array Goroutine) (w' : World) (D' : Nat → WD) (u : Trace) : Prop where
  run : runT L.P (crowd gs w sl) i = (.next (crowd gs' w' sl), u)
  own : gs'[i]? = some g'
  main : 0 < i → gs'[0]? = gs[0]?
  com : Com L t₀ j s f' gs' w' (t ++ u) D' d0
  tk : Tk L j (s + 1) f' D' w'
  rm : RM L w w'
  wg : w'.heap[L.Wg]? = w.heap[L.Wg]?
  same : ∀ b, b < L.m0 + j → (5 ≤ (D' b).stage ∧ 5 ≤ (D b).stage) ∨ (D' b).stage = (D b).stage
  sum : Ssum (L.m0 + j) D' + (D i).stage ≤ Ssum (L.m0 + j) D + y.stage

theorem Vc_congr {M : Nat} {D D' : Nat → WD} (h : ∀ b, b < M → (5 ≤ (D' b).stage ∧ 5 ≤ (D b).stage) ∨ (D' b).stage = (D b).stage) : Vc M D' = Vc M D := sumTo_congr fun a ha => by
  simp only [cnt]
  rcases h a ha with ⟨h1, h2⟩ | h1
  · rw [if_pos h1, if_pos h2]
  · rw [h1]

set_option maxHeartbeats 1000000 in
theorem give (G : Geo L) (hAr : ∀ g w, Anch g w → g.status = .running) (I : InvAt L Anch Back t₀ gs w j s f D tag f0 d0 a st sm t) {i : Nat} {g g₂ : Goroutine} (hg : gs[i]? = some g) (hi : i = 0 ∨ ∃ q, q < j ∧ i = L.m0 + q)
    (hst0 : stepG L.P (i == 0) g w = .comm g₂ #[scase (L.ch (s % L.n)) U U] false .select w #[]) (hjn : j = L.n) (hK : ∀ it, SumK t f it → Knows t i it) (hdf : Deaf t i = 0) (hff : flyN f = 0)
    (hSm : ∃ T, w.heap[L.Sm]? = some (.cells #[.int .i64 (s : Int)] T)) (hoth : ∀ q, q < j → Holds (D (L.m0 + q)).stage → L.m0 + q = i)
    (y : WD) (hyc : (y.stage - 8) / 2 = ((D i).stage - 8) / 2) (hyh : ¬ Holds y.stage) (hyp : ¬ Parked y.stage y.fuel) (hy5 : (5 ≤ y.stage ∧ 5 ≤ (D i).stage) ∨ y.stage = (D i).stage) (hyd : y.deaf = (D i).deaf) (hy0 : i = 0 → y = D 0) (hy6 : 0 < i → 6 < y.stage)
    (hnew : ∀ q w₁, q < j → i = L.m0 + q → RWk L q w w₁ → WS L q s y.stage y.fuel y.deaf (Go.Conc.served g₂ UT) w₁) :
    ∃ f' gs' w' D' u, Given L t₀ t j s gs w sl D d0 i (Go.Conc.served g₂ UT) y f' gs' w' D' u := by
  have hm0 := G.m0
  have hn1 := G.n1
  have hit : i < L.m0 + j := by rcases hi with rfl | ⟨q, hq, rfl⟩ <;> omega
  have hisz : i < gs.size := by rw [I.com.size]; exact hit
  obtain ⟨q', hq'⟩ : ∃ q', s % L.n = q' := ⟨_, rfl⟩
  have hq'n : q' < L.n := hq' ▸ Nat.mod_lt _ (by omega)
  have hq'j : q' < j := by omega
  have htg : tgt L (s + 1) = q' := hq'
  rw [hq'] at hst0
  have hcW := G.hcW q' hq'n
  have hcS := G.hcS q' hq'n
  have hrcv0 : ∀ q, rcv L f s q = snd L s q := fun q => by unfold rcv; rw [hff]; simp
  have hchan0 : ∀ q, q < L.n → w.heap[L.ch q]? = some (.chan 1 #[] false (snd L s q) (snd L s q) false) := fun q hq => by
    have := I.tk.chan q hq
    rw [hrcv0, buf, if_neg (by rw [hff]; simp)] at this
    exact this
  have hch := hchan0 q' hq'n
  have hss : ∀ q, q < L.n → snd L (s + 1) q = snd L s q + (if q = q' then 1 else 0) := fun q hq => by rw [snd_succ G hq, hq']
  have hlow : L.ch q' < L.B := by have := G.hch q' hq'n; have := G.hB; omega
  have hib : ∀ q, i = L.m0 + q → (i == 0) = false := fun q e => by simp; omega
  obtain ⟨T, hT⟩ := hSm
  by_cases hpk : L.m0 + q' ≠ i ∧ Parked (D (L.m0 + q')).stage (D (L.m0 + q')).fuel
  · -- THE NEXT ONE STANDS PARKED THERE
    obtain ⟨hne, hP⟩ := hpk
    obtain ⟨gj, hgj, hWj⟩ := I.com.wk q' hq'j
    obtain ⟨r', hst', hfu', hde', gp, rfl, hNj⟩ : ∃ r', (D (L.m0 + q')).stage = 2 * r' + 10 ∧ (D (L.m0 + q')).fuel = 0 ∧ (D (L.m0 + q')).deaf = 0 ∧ ∃ gp, gj = parked gp #[rcase (L.ch q') U] (.recv false) ∧ ∀ w₁, RWk L q' w w₁ → HoldN L q' r' (Go.Conc.served gp U) w₁ := by
      generalize h1 : (D (L.m0 + q')).stage = s1 at hWj hP
      generalize h2 : (D (L.m0 + q')).fuel = s2 at hWj hP
      generalize h3 : (D (L.m0 + q')).deaf = s3 at hWj
      obtain ⟨⟨r, hr⟩, h0⟩ := hP
      cases hWj with
      | park h => exact ⟨_, rfl, rfl, rfl, _, rfl, h⟩
      | seat h => omega
      | _ => omega
    have hrunT := crowd_send_meets (P := L.P) (sl := sl) hg hst0 hch hne hgj (I.oneTaker hAr G hq'j hne hgj)
    rw [ofEvents_none, finishComm_give, finishComm_recv] at hrunT
    have hAs := aside_setChan w (L.ch q') 1 #[] false (snd L s q' + 1) (snd L s q' + 1) false
    have hhp := heap_setChan w (cap := 1) (b := #[]) (cl := false) (s := snd L s q' + 1) (r := snd L s q' + 1) (tm := false) hch
    generalize hw' : w.setChan (L.ch q') 1 #[] false (snd L s q' + 1) (snd L s q' + 1) false = w' at hrunT hAs hhp
    have hrw : ∀ q, q < j → RWk L q w w' := fun q hq => .of_aside hAs (fun hk => (G.kb q _ (by omega) hk).2.2.2 q' hq'n rfl) (fun e => absurd e hcW)
    have hleft' := I.tk.left q' hq'j
    rw [hrcv0, hst'] at hleft'
    have hlt : s < L.n * L.k := by
      have := lt_of_left G (s := s + 1) (r := r') (by omega) (by rw [htg, hss q' hq'n, if_pos rfl]; omega)
      simpa using this
    obtain ⟨m', hG⟩ := hNj w' (hrw q' hq'j) s hlt ⟨T, (hAs.block _ (Ne.symm hcS)).trans hT⟩
    have hmute : ∀ op ∈ met i (L.m0 + q') g₂.frame.fn g₂.frame.place gp.frame.fn gp.frame.place (L.ch q') (snd L s q') 1, op.g < L.m0 + j ∧ op.act.low L.B ∧ op.act.touch? = none ∧ op.act ≠ .mark (.release (stA L.Wg)) ∧ ∀ g' d, deafStep g' d op = d := by
      intro op hop
      simp only [met, List.mem_toArray, List.mem_cons, List.not_mem_nil, or_false] at hop
      rcases hop with rfl | rfl | rfl | rfl
      · exact ⟨hit, hlow, rfl, by simp, fun _ _ => rfl⟩
      · exact ⟨by simp only; omega, hlow, rfl, by simp, fun _ _ => rfl⟩
      · exact ⟨hit, hlow, rfl, by simp, fun _ _ => rfl⟩
      · exact ⟨by simp only; omega, hlow, rfl, by simp, fun _ _ => rfl⟩
    have hdj := I.com.deafW (L.m0 + q') (by omega) (by omega)
    rw [hde'] at hdj
    have hK' : ∀ it, SumK t f it → SumK (t ++ met i (L.m0 + q') g₂.frame.fn g₂.frame.place gp.frame.fn gp.frame.place (L.ch q') (snd L s q') 1) (.held (L.m0 + q')) it := fun it hk => sumK_met (hK it hk) hdf hdj _ _ _ _ _ _ _
    have hrunT' : runT L.P (crowd gs w sl) i = (.next (crowd ((gs.setIfInBounds (L.m0 + q') (Go.Conc.served gp (recvd false U true))).setIfInBounds i (Go.Conc.served g₂ UT)) w' sl), met i (L.m0 + q') g₂.frame.fn g₂.frame.place gp.frame.fn gp.frame.place (L.ch q') (snd L s q') 1) := by
      rw [hrunT]; simp [met]
    generalize hu : met i (L.m0 + q') g₂.frame.fn g₂.frame.place gp.frame.fn gp.frame.place (L.ch q') (snd L s q') 1 = u at hrunT' hmute hK'
    have hD1 : ∀ b, b ≠ i → b ≠ L.m0 + q' → upd (upd D (L.m0 + q') ⟨2 * r' + 9, m', 0⟩) i y b = D b := fun b h1 h2 => by rw [upd_ne _ _ h1, upd_ne _ _ h2]
    have hD2 : upd (upd D (L.m0 + q') ⟨2 * r' + 9, m', 0⟩) i y (L.m0 + q') = ⟨2 * r' + 9, m', 0⟩ := by rw [upd_ne _ _ hne, upd_same]
    have hD3 : upd (upd D (L.m0 + q') ⟨2 * r' + 9, m', 0⟩) i y i = y := upd_same ..
    have hS2 := sumTo_upd (upd D (L.m0 + q') ⟨2 * r' + 9, m', 0⟩) y WD.stage hit
    have hS1 := sumTo_upd D (⟨2 * r' + 9, m', 0⟩ : WD) WD.stage (show L.m0 + q' < L.m0 + j by omega)
    rw [upd_ne _ _ (Ne.symm hne)] at hS2
    have hsm' : ∀ b, b < L.m0 + j → (5 ≤ (upd (upd D (L.m0 + q') ⟨2 * r' + 9, m', 0⟩) i y b).stage ∧ 5 ≤ (D b).stage) ∨ (upd (upd D (L.m0 + q') ⟨2 * r' + 9, m', 0⟩) i y b).stage = (D b).stage := fun b _ => by
      by_cases e : b = i
      · subst e; rw [hD3]; exact hy5
      · by_cases e' : b = L.m0 + q'
        · subst e'; rw [hD2]; exact .inl ⟨by simp only; omega, by rw [hst']; omega⟩
        · rw [hD1 b e e']; exact .inr rfl
    generalize hDD : upd (upd D (L.m0 + q') ⟨2 * r' + 9, m', 0⟩) i y = D' at hD1 hD2 hD3 hS2 hsm'
    have hrcv' : ∀ q, rcv L (.held (L.m0 + q')) (s + 1) q = snd L (s + 1) q := fun q => by unfold rcv; simp [flyN]
    have htk : Tk L j (s + 1) (.held (L.m0 + q')) D' w' := by
      refine ⟨fun q hq => ?_, .inr ⟨by omega, hjn, .inl (by rw [htg])⟩, fun h => absurd rfl (h _), fun q hq => ?_, fun q hq => ?_, fun q _ hf _ => by cases hf⟩
      · rw [hrcv', buf, if_neg (by simp [flyN]), hss q hq]
        by_cases e : q = q'
        · subst e; rw [hhp]; simp
        · rw [hAs.block _ (fun e' => e (G.inj q q' hq hq'n e')), hchan0 q hq]; simp [e]
      · by_cases e : L.m0 + q = L.m0 + q'
        · rw [e, hD2]; exact ⟨fun _ => rfl, fun _ => ⟨r', rfl⟩⟩
        · refine ⟨fun hh => ?_, fun e' => by simp only [Flow.held.injEq] at e'; omega⟩
          by_cases e2 : L.m0 + q = i
          · rw [e2, hD3] at hh; exact absurd hh hyh
          · rw [hD1 _ e2 e] at hh; exact absurd (hoth q hq hh) e2
      · rw [hrcv', hss q (by omega)]
        have hl := I.tk.left q hq
        rw [hrcv0] at hl
        by_cases e : L.m0 + q = L.m0 + q'
        · obtain rfl : q = q' := by omega
          rw [hD2, if_pos rfl]
          simp only
          omega
        · rw [if_neg (by omega)]
          by_cases e2 : L.m0 + q = i
          · rw [e2, hD3, hyc, ← e2]; omega
          · rw [hD1 _ e2 e]; omega
    have hDq : ∀ g', Deaf (t ++ u) g' = Deaf t g' := fun g' => Deaf_quiet fun op hop d => (hmute op hop).2.2.2.2 g' d
    refine ⟨.held (L.m0 + q'), _, w', D', u, hrunT', by simp [hisz], fun h0 => ?_, ?_, htk, .of_aside hAs (.inr (.inr ⟨q', hq'n, rfl⟩)) (fun e => absurd e hcW), hAs.block _ (Ne.symm hcW), hsm', ?_⟩
    · rw [Array.getElem?_setIfInBounds_ne (by omega), Array.getElem?_setIfInBounds_ne (by omega)]
    · refine I.com.next G (fun b => (b = i ∧ 0 < i) ∨ b = L.m0 + q') (by simp) (fun b hb0 hb hbi x hx hw => ?_) (fun b hb => ?_) (by rintro (⟨e1, e2⟩ | e) <;> omega) (fun q hq _ => hrw q hq) (fun q hq hqi hh => ?_) htk.opens (fun b hb0 hb hbi => ?_) (fun q hq hqi => ?_)
        (I.com.tr.appMute hK' (late_comm rfl fun op hop => ⟨(hmute op hop).1, (hmute op hop).2.1, (hmute op hop).2.2.1, (hmute op hop).2.2.2.1⟩) fun op hop => (hmute op hop).2.2.1)
        (by rw [hDq]; exact I.com.deaf0) (fun b hb0 hb => ?_) (fun b hb => by rw [hDq]; exact I.com.deafN b hb) (fun q hq hst => ?_)
      · rw [Array.getElem?_setIfInBounds_ne (by omega), Array.getElem?_setIfInBounds_ne (by omega)]; exact hx
      · by_cases e : b = i
        · subst e
          rcases Nat.eq_zero_or_pos b with h0 | h0
          · subst h0; rw [hD3]; exact hy0 rfl
          · exact absurd (.inl ⟨rfl, h0⟩) hb
        · exact hD1 b e (fun e' => hb (.inr e'))
      · have := hoth q hq hh
        exact absurd (.inl ⟨this, by omega⟩) hqi
      · rcases hbi with ⟨rfl, _⟩ | e
        · rcases hi with e | ⟨q, _, e⟩ <;> omega
        · omega
      · by_cases e : L.m0 + q = i
        · refine ⟨_, by rw [e]; exact Array.getElem?_setIfInBounds_self_of_lt (by simpa using hisz), ?_⟩
          rw [e, hD3]
          exact hnew q w' hq e.symm (hrw q hq)
        · obtain rfl : q = q' := by rcases hqi with ⟨e', _⟩ | e' <;> omega
          refine ⟨Go.Conc.served gp (recvd false U true), ?_, by rw [hD2]; exact .hold hG⟩
          rw [Array.getElem?_setIfInBounds_ne (Ne.symm e), Array.getElem?_setIfInBounds_self_of_lt (by rw [I.com.size]; omega)]
      · rw [hDq, I.com.deafW b hb0 hb]
        by_cases e : b = i
        · subst e; rw [hD3, hyd]
        · by_cases e' : b = L.m0 + q'
          · subst e'; rw [hD2]; exact hde'
          · rw [hD1 b e e']
      · by_cases e : L.m0 + q = i
        · have := hy6 (by omega)
          rw [e, hD3] at hst
          omega
        · by_cases e' : L.m0 + q = L.m0 + q'
          · rw [e', hD2] at hst; simp at hst
          · rw [hD1 _ e e'] at hst
            obtain ⟨r1, hr1⟩ := I.com.rel q hq hst
            exact ⟨r1, relby_mute hr1 fun op hop => (hmute op hop).2.2.1⟩
    · simp only [Ssum] at *
      rw [hst'] at hS1
      omega
  · -- INTO THE CHANNEL's ROOM
    have hnp : L.m0 + q' ≠ i → ¬ Parked (D (L.m0 + q')).stage (D (L.m0 + q')).fuel := fun h1 h2 => hpk ⟨h1, h2⟩
    have hrunT := crowd_send_room (P := L.P) (sl := sl) hg hst0 hch (by simp) (I.noTakers hAr G hq'n fun _ h => hnp h)
    rw [ofEvents_none, finishComm_give] at hrunT
    have hAs := aside_setChan w (L.ch q') 1 ((#[] : Array Value).push U) false (snd L s q' + 1) (snd L s q') false
    have hhp := heap_setChan w (cap := 1) (b := (#[] : Array Value).push U) (cl := false) (s := snd L s q' + 1) (r := snd L s q') (tm := false) hch
    generalize hw' : w.setChan (L.ch q') 1 ((#[] : Array Value).push U) false (snd L s q' + 1) (snd L s q') false = w' at hrunT hAs hhp
    have hrw : ∀ q, q < j → RWk L q w w' := fun q hq => .of_aside hAs (fun hk => (G.kb q _ (by omega) hk).2.2.2 q' hq'n rfl) (fun e => absurd e hcW)
    have hmute : ∀ op ∈ (#[{ g := i, fn := g₂.frame.fn, pos := g₂.frame.place, act := .send (L.ch q') (snd L s q') }, { g := i, fn := g₂.frame.fn, pos := g₂.frame.place, act := .sendDone (L.ch q') (snd L s q') }] : Trace), op.g < L.m0 + j ∧ op.act.low L.B ∧ op.act.touch? = none ∧ op.act ≠ .mark (.release (stA L.Wg)) ∧ ∀ g' d, deafStep g' d op = d := by
      intro op hop
      simp only [List.mem_toArray, List.mem_cons, List.not_mem_nil, or_false] at hop
      rcases hop with rfl | rfl
      · exact ⟨hit, hlow, rfl, by simp, fun _ _ => rfl⟩
      · exact ⟨hit, hlow, rfl, by simp, fun _ _ => rfl⟩
    have hK' : ∀ it, SumK t f it → SumK (t ++ #[{ g := i, fn := g₂.frame.fn, pos := g₂.frame.place, act := .send (L.ch q') (snd L s q') }, { g := i, fn := g₂.frame.fn, pos := g₂.frame.place, act := .sendDone (L.ch q') (snd L s q') }]) (.fly (L.ch q') (snd L s q')) it := fun it hk =>
      sumK_send (hK it hk) hdf g₂.frame.fn g₂.frame.place (L.ch q') (snd L s q') _ ⟨#[{ g := i, fn := g₂.frame.fn, pos := g₂.frame.place, act := .sendDone (L.ch q') (snd L s q') }], by simp⟩
    have hrunT' : runT L.P (crowd gs w sl) i = (.next (crowd (gs.setIfInBounds i (Go.Conc.served g₂ UT)) w' sl), #[{ g := i, fn := g₂.frame.fn, pos := g₂.frame.place, act := .send (L.ch q') (snd L s q') }, { g := i, fn := g₂.frame.fn, pos := g₂.frame.place, act := .sendDone (L.ch q') (snd L s q') }]) := by
      rw [hrunT]; simp
    generalize hu : (#[{ g := i, fn := g₂.frame.fn, pos := g₂.frame.place, act := .send (L.ch q') (snd L s q') }, { g := i, fn := g₂.frame.fn, pos := g₂.frame.place, act := .sendDone (L.ch q') (snd L s q') }] : Trace) = u at hrunT' hmute hK'
    have hS2 := sumTo_upd D y WD.stage hit
    have hrcv' : ∀ q, q < L.n → rcv L (.fly (L.ch q') (snd L s q')) (s + 1) q = snd L s q := fun q hq => by
      unfold rcv
      rw [htg, hss q hq]
      by_cases e : q = q' <;> simp [e, flyN]
    have htk : Tk L j (s + 1) (.fly (L.ch q') (snd L s q')) (upd D i y) w' := by
      refine ⟨fun q hq => ?_, .inr ⟨by omega, hjn, .inr (by rw [htg, hrcv' q' hq'n])⟩, fun _ => ⟨T, ?_⟩, fun q hq => ?_, fun q hq => ?_, fun q hq _ hqt => ?_⟩
      · rw [hrcv' q hq, buf, htg, hss q hq]
        by_cases e : q = q'
        · subst e; rw [hhp]; simp [flyN]
        · rw [hAs.block _ (fun e' => e (G.inj q q' hq hq'n e')), hchan0 q hq]; simp [e]
      · rw [hAs.block _ (Ne.symm hcS), hT]; simp
      · refine ⟨fun hh => ?_, fun e => by cases e⟩
        by_cases e2 : L.m0 + q = i
        · rw [e2, upd_same] at hh; exact absurd hh hyh
        · rw [upd_ne D _ e2] at hh; exact absurd (hoth q hq hh) e2
      · rw [hrcv' q (by omega)]
        have hl := I.tk.left q hq
        rw [hrcv0] at hl
        by_cases e2 : L.m0 + q = i
        · rw [e2, upd_same, hyc, ← e2]; exact hl
        · rw [upd_ne D _ e2]; exact hl
      · rw [htg] at hqt
        subst hqt
        by_cases e2 : L.m0 + q = i
        · rw [e2, upd_same]; exact hyp
        · rw [upd_ne D _ e2]; exact hnp e2
    have hDq : ∀ g', Deaf (t ++ u) g' = Deaf t g' := fun g' => Deaf_quiet fun op hop d => (hmute op hop).2.2.2.2 g' d
    refine ⟨.fly (L.ch q') (snd L s q'), _, w', upd D i y, u, hrunT', by simp [hisz], fun h0 => ?_, ?_, htk, .of_aside hAs (.inr (.inr ⟨q', hq'n, rfl⟩)) (fun e => absurd e hcW), hAs.block _ (Ne.symm hcW), fun b _ => ?_, ?_⟩
    · rw [Array.getElem?_setIfInBounds_ne (by omega)]
    · refine I.com.next G (fun b => b = i ∧ 0 < i) (by simp) (fun b hb0 hb hbi x hx hw => ?_) (fun b hb => ?_) (by rintro ⟨e1, e2⟩; omega) (fun q hq _ => hrw q hq) (fun q hq hqi hh => ?_) htk.opens (fun b hb0 hb hbi => ?_) (fun q hq hqi => ?_)
        (I.com.tr.appMute hK' (late_comm rfl fun op hop => ⟨(hmute op hop).1, (hmute op hop).2.1, (hmute op hop).2.2.1, (hmute op hop).2.2.2.1⟩) fun op hop => (hmute op hop).2.2.1)
        (by rw [hDq]; exact I.com.deaf0) (fun b hb0 hb => ?_) (fun b hb => by rw [hDq]; exact I.com.deafN b hb) (fun q hq hst => ?_)
      · rw [Array.getElem?_setIfInBounds_ne (by omega)]; exact hx
      · by_cases e : b = i
        · subst e
          rcases Nat.eq_zero_or_pos b with h0 | h0
          · subst h0; rw [upd_same]; exact hy0 rfl
          · exact absurd ⟨rfl, h0⟩ hb
        · exact upd_ne D _ e
      · exact absurd ⟨hoth q hq hh, by have := hoth q hq hh; omega⟩ hqi
      · obtain ⟨rfl, _⟩ := hbi
        rcases hi with e | ⟨q, _, e⟩ <;> omega
      · obtain ⟨e, _⟩ := hqi
        refine ⟨_, by rw [e]; exact Array.getElem?_setIfInBounds_self_of_lt hisz, ?_⟩
        rw [e, upd_same]
        exact hnew q w' hq e.symm (hrw q hq)
      · rw [hDq, I.com.deafW b hb0 hb]
        by_cases e : b = i
        · subst e; rw [upd_same, hyd]
        · rw [upd_ne D _ e]
      · by_cases e : L.m0 + q = i
        · have := hy6 (by omega)
          rw [e, upd_same] at hst
          omega
        · rw [upd_ne D _ e] at hst
          obtain ⟨r1, hr1⟩ := I.com.rel q hq hst
          exact ⟨r1, relby_mute hr1 fun op hop => (hmute op hop).2.2.1⟩
    · by_cases e : b = i
      · subst e; rw [upd_same]; exact hy5
      · rw [upd_ne D _ e]; exact .inr rfl
    · simp only [Ssum] at *
      omega

/-- A worker that holds gives. -/
theorem stepSend (G : Geo L) (hAr : ∀ g w, Anch g w → g.status = .running) (I : InvAt L Anch Back t₀ gs w j s f D tag f0 d0 a st sm t) {q r : Nat} (hq : q < j) {g : Goroutine} (hg : gs[L.m0 + q]? = some g)
    (hst : (D (L.m0 + q)).stage = 2 * r + 9) (hde : (D (L.m0 + q)).deaf = 0) (hs : AtSend L q (s - 1) (Cont L q r) g w) :
    ∃ m₁ ops, runT L.P (crowd gs w sl) (L.m0 + q) = (.next m₁, ops) ∧ ∃ μ', Lt2 μ' (mu L (L.m0 + j) D tag f0) ∧ Inv L Anch Back t₀ μ' m₁ (t ++ ops) := by
  obtain ⟨_, ⟨T, hT⟩, g₂, hst0, hN⟩ := hs
  have hm0 := G.m0
  have hi : L.m0 + q < L.m0 + j := by omega
  have hf : f = .held (L.m0 + q) := (I.tk.hold q hq).1 ⟨r, hst⟩
  obtain ⟨hs1, hjn, hqt⟩ : 1 ≤ s ∧ j = L.n ∧ q = tgt L s := by
    rcases I.tk.form with ⟨e, _⟩ | ⟨h1, h2, e | e⟩
    · rw [hf] at e; cases e
    · rw [hf] at e
      simp only [Flow.held.injEq] at e
      exact ⟨h1, h2, by omega⟩
    · rw [hf] at e; cases e
  have hib : (L.m0 + q == 0) = false := by simp; omega
  have hnx : (q + 1) % L.n = s % L.n := by rw [hqt]; exact tgt_next hs1
  rw [hnx] at hst0
  have hs' : ((s - 1 : Nat) : Int) + 1 = (s : Int) := by omega
  rw [hs'] at hT
  -- where it goes on
  obtain ⟨y, hy1, hy2, hy3, hy4, hy5, hyW⟩ : ∃ y : WD, (y.stage - 8) / 2 = (2 * r + 9 - 8) / 2 ∧ ¬ Holds y.stage ∧ ¬ Parked y.stage y.fuel ∧ y.deaf = 0 ∧ (7 ≤ y.stage ∧ y.stage < 2 * r + 9) ∧ ∀ w₁, RWk L q w w₁ → WS L q s y.stage y.fuel y.deaf (Go.Conc.served g₂ UT) w₁ := by
    have h0 := hN w (.refl w)
    have tr : ∀ a b c, RWk L q a b → RWk L q b c → RWk L q a c := fun _ _ _ h1 h2 => h1.trans h2
    cases r with
    | zero =>
      obtain ⟨m, hm⟩ := h0
      exact ⟨⟨7, m, 0⟩, by simp, not_holds (by simp), not_parked (by simp), rfl, ⟨by simp, by simp⟩, fun w₁ h₁ => .r0 (Goes.rely tr hm h₁)⟩
    | succ r =>
      obtain ⟨m, hm⟩ := h0
      refine ⟨⟨2 * r + 10, m + 1, 0⟩, by simp only; omega, fun ⟨x, e⟩ => by simp only at e; omega, fun ⟨_, e⟩ => by simp at e, rfl, ⟨by simp only; omega, by simp only; omega⟩, fun w₁ h₁ => .seat (Goes.rely tr hm h₁)⟩
  obtain ⟨f', gs', w', D', u, H⟩ := give (sl := sl) G hAr I hg (.inr ⟨q, hq, rfl⟩) (by rw [hib]; exact hst0) hjn (fun it hk => by rw [hf] at hk; exact hk) (by rw [I.com.deafW _ (by omega) hi, hde]) (by rw [hf]; rfl) ⟨T, hT⟩
    (fun q' hq' hh => by have := (I.tk.hold q' hq').1 hh; rw [hf] at this; simp only [Flow.held.injEq] at this; omega) y (by rw [hst]; exact hy1) hy2 hy3 (.inl ⟨by omega, by rw [hst]; omega⟩) (by rw [hde, hy4]) (fun e => by omega) (fun _ => by omega)
    (fun q' w₁ _ e h₁ => by obtain rfl : q' = q := by omega
                            exact hyW w₁ h₁)
  refine ⟨_, _, H.run, mu L (L.m0 + j) D' tag f0, ?_, gs', w', sl, j, s + 1, f', D', tag, f0, d0, a, st, sm, rfl, ⟨by rw [H.main (by omega)]; exact I.main, I.cs.rely H.rm, H.com, I.wg.of_block H.wg, I.mode.congr H.same, H.tk, ?_⟩, rfl⟩
  · unfold mu
    rw [Vc_congr H.same]
    have := H.sum
    rw [hst] at this
    exact Prod.Lex.left _ _ (by omega)
  · constructor
    · intro h; have := I.pre.1 h; omega
    · intro h; omega
end
end Go.Proofs.Ytejedbknpjffkaa.Rl
