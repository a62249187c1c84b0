/- THE RELAY: the starter's steps; nobody is stuck; the run, on every tape, to behind the join. -/
import Derived.Test.YtejedbknpjffkaaRlG
namespace Go.Proofs.Ytejedbknpjffkaa.Rl
open Go Go.Conc
open Go.ConcN (ShN WgLive RelBy RelBy.appOther RelBy.appNot RelBy.new RelBy.book upd upd_same upd_ne sumTo sumTo_upd sumTo_congr sumTo_le le_sumTo get_map_set get_map_set_same Deaf_still Deaf_absent bk_cell deafBehind_idle norel_of norel_of_Bk sumTo_upd_out)
open Go.ConcR (KK wgBlock WgAt stA smA rd wr mk Bk bk_of_mute ofEvent_loc_mark ofEvent_cell ofEvent_mk loc_of_ofEvent g_of_ofEvents deafBehind_cons deafBehind_one)

section
variable {L : Lay} {j : Nat} {fn : FuncId} {pos : String} {es : Array Event}
theorem late_M (G : Geo L) (h : ∀ e ∈ es, EvM L j e) : ∀ op ∈ MemOp.ofEvents 0 fn pos es, op.g = 0 ∧ LateOp L.tl j op ∧ ∀ x, op.act.touch? = some x → x.write = true → ∀ q, q < j → ¬ L.tl.Still q x.loc := by
  intro op hop
  obtain ⟨e, he, rfl⟩ := Go.Conc.mem_ofEvents hop
  obtain ⟨h1, _, _, h4, h5⟩ := h e he
  have := G.m0
  exact ⟨rfl, ⟨h5, by simp only [Lay.tl]; omega, fun hx => h4 (loc_of_ofEvent hx), fun x hx => .inl ⟨rfl, (h1 x hx).1⟩⟩, fun x hx => (h1 x hx).2⟩
theorem late_Bk0 (G : Geo L) (h : ∀ e ∈ es, Bk L.Wg e) : ∀ op ∈ MemOp.ofEvents 0 fn pos es, op.g = 0 ∧ LateOp L.tl j op ∧ ∀ x, op.act.touch? = some x → x.write = true → ∀ q, q < j → ¬ L.tl.Still q x.loc := by
  intro op hop
  obtain ⟨e, he, rfl⟩ := Go.Conc.mem_ofEvents hop
  have hm0 := G.m0
  have hlow : L.Wg < L.B := by have := G.hWg; have := G.hB; omega
  rcases h e he with h1 | h1 | ⟨a, wr, rfl, ha⟩
  · have e1 : MemAct.ofEvent e = .mark .disable := ofEvent_loc_mark h1
    exact ⟨rfl, ⟨by rw [e1]; trivial, by simp only [Lay.tl]; omega, by rw [e1]; simp, fun x hx => by rw [e1] at hx; cases hx⟩, fun x hx => by rw [e1] at hx; cases hx⟩
  · have e1 : MemAct.ofEvent e = .mark .enable := ofEvent_loc_mark h1
    exact ⟨rfl, ⟨by rw [e1]; trivial, by simp only [Lay.tl]; omega, by rw [e1]; simp, fun x hx => by rw [e1] at hx; cases hx⟩, fun x hx => by rw [e1] at hx; cases hx⟩
  · have e1 : MemAct.ofEvent ⟨.cell a, wr, true⟩ = .access ⟨.cell a, wr, true⟩ := ofEvent_cell ..
    have e2 : ∀ x, (MemAct.ofEvent ⟨.cell a, wr, true⟩).touch? = some x → x = ⟨.cell a, wr, .atomic⟩ := fun x hx => by
      rw [e1] at hx; simpa [MemAct.touch?] using hx.symm
    refine ⟨rfl, ⟨?_, by simp only [Lay.tl]; omega, by rw [e1]; simp, fun x hx => ?_⟩, fun x hx hw q _ hs => ?_⟩
    · rw [e1]
      show a.block < L.B
      omega
    · obtain rfl := e2 x hx
      exact .inl ⟨rfl, .inl ⟨⟨a, rfl, ha⟩, by simp⟩⟩
    · obtain rfl := e2 x hx
      exact (tok G).stSh q _ hs ⟨a, rfl, ha⟩
end

/-- Behind the join. -/
def Exit (L : Lay) (Back : Goroutine → World → Prop) (m : Machine) (t : Trace) : Prop :=
  ∃ (gs : Array Goroutine) (w : World) (sl : Option (Nat × Nat)) (a : Goroutine) (q : Nat → Nat), m = crowd gs w sl ∧ gs.size = L.m0 + L.n ∧ gs[0]? = some a ∧ Back a w ∧ Leavers L.P t gs q ∧ Past (fun l => L.Shun l ∨ ShN L.Wg l) L.B t ∧
    ∃ T, w.heap[L.Sm]? = some (.cells #[.int .i64 ((L.n * L.k : Nat) : Int)] T)

section
variable {L : Lay} {Anch Back : Goroutine → World → Prop} {t₀ t : Trace} {B₀ j s : Nat} {f : Flow} {gs : Array Goroutine} {w : World} {sl : Option (Nat × Nat)} {D : Nat → WD} {tag : Tag} {f0 d0 : Nat} {a : Goroutine} {st sm : Int}

theorem InvAt.Vj (I : InvAt L Anch Back t₀ gs w j s f D tag f0 d0 a st sm t) : Vc (L.m0 + j) D ≤ j := Vc_le' (fun b hb => by
  rcases Nat.eq_zero_or_pos b with rfl | hp
  · rw [I.com.z]
  · exact (I.com.old b hp hb).choose_spec.2.1) j

theorem CS.bound (h : CS L Anch Back tag j f0 d0 a w) : j + pend tag ≤ L.n := by
  cases h <;> simp only [pend] <;> (try simp) <;> omega

/-- All have ended: it was handed on as often as was to be. -/
theorem allDone (G : Geo L) (tk : Tk L L.n s f D w) (hs : s ≠ 0) (hq : ∀ q, q < L.n → (D (L.m0 + q)).stage ≤ 7) : s - 1 = L.n * L.k ∧ flyN f = 1 := by
  have hn1 := G.n1
  have ht := tgt_lt G s
  obtain ⟨h1, hf⟩ : 1 ≤ s ∧ f = .fly (L.ch (tgt L s)) (rcv L f s (tgt L s)) := by
    rcases tk.form with ⟨_, e⟩ | ⟨h1, _, e | e⟩
    · exact absurd e hs
    · have := (tk.hold (tgt L s) ht).2 e
      exact absurd this (not_holds (by have := hq _ ht; omega))
    · exact ⟨h1, e⟩
  have hfl : flyN f = 1 := by rw [hf]; rfl
  have hl : ∀ q, q < L.n → rcv L f s q = L.k := fun q hqn => by have := tk.left q hqn; have := hq q hqn; omega
  have hst := snd_tgt G h1
  have hr := hl _ ht
  unfold rcv at hr
  rw [if_pos rfl, hfl] at hr
  have hpos : 1 ≤ snd L s (tgt L s) := by
    rcases Nat.eq_zero_or_pos (snd L s (tgt L s)) with h0 | h0
    · rw [h0] at hst; omega
    · exact h0
  have hsk : snd L s (tgt L s) = L.k + 1 := by omega
  have h0 : tgt L s = 0 := by
    rcases Nat.eq_zero_or_pos (tgt L s) with e | e
    · exact e
    · have hr0 := hl 0 (by omega)
      unfold rcv at hr0
      rw [if_neg (by omega)] at hr0
      have hle : snd L s (tgt L s) ≤ snd L s 0 := Nat.div_le_div_right (by omega)
      omega
  rw [hsk, h0, Nat.mul_add, Nat.mul_one] at hst
  exact ⟨by omega, hfl⟩

/-- NOBODY IS STUCK. -/
theorem someone_runs (G : Geo L) (hAr : ∀ g w, Anch g w → g.status = .running) (I : InvAt L Anch Back t₀ gs w j s f D tag f0 d0 a st sm t) : ∃ (i : Nat) (g : Goroutine), gs[i]? = some g ∧ g.status = .running := by
  have hm0 := G.m0
  rcases I.cs.status hAr with ⟨hs, _⟩ | ⟨_, _, rfl⟩
  · exact ⟨0, a, I.main, hs⟩
  · have hjn : j = L.n := by
      have := I.cs
      generalize hT : Tag.blk = tg at this
      cases this <;> first | rfl | cases hT
    subst hjn
    have run : ∀ q, q < L.n → (D (L.m0 + q)).stage ≠ 1 → ¬ Parked (D (L.m0 + q)).stage (D (L.m0 + q)).fuel → ∃ (i : Nat) (g : Goroutine), gs[i]? = some g ∧ g.status = .running := fun q hq h1 h2 => by
      obtain ⟨g, hg, hw⟩ := I.com.wk q hq
      rcases hw.status with ⟨e, _⟩ | ⟨e, _⟩ | ⟨e, _⟩
      · exact ⟨_, g, hg, e⟩
      · exact absurd e h1
      · exact absurd e h2
    have wk : ∀ i, i < L.m0 + L.n → (D i).stage ≠ 1 → ∃ q, q < L.n ∧ i = L.m0 + q := fun i hi h1 => by
      rcases Nat.eq_zero_or_pos i with rfl | hp
      · rw [I.com.z] at h1; exact absurd rfl h1
      · rcases Nat.lt_or_ge i L.m0 with hlt | hge
        · exact absurd (I.com.old i hp hlt).choose_spec.2.1 h1
        · exact ⟨i - L.m0, by omega, by omega⟩
    have hs0 : s ≠ 0 := fun e => by have := I.pre.2 e; exact this
    have hm := I.mode
    cases hm with
    | opn h1 _ _ => exact h1.elim
    | reg _ _ h3 =>
      by_cases hall : ∀ q, q < L.n → (D (L.m0 + q)).stage ≤ 7
      · obtain ⟨i, hi, h5⟩ := exists_counted h3
        obtain ⟨q, hq, rfl⟩ := wk i hi (by omega)
        exact run q hq (by omega) (not_parked (by have := hall q hq; omega))
      · have ht := tgt_lt G s
        rcases I.tk.form with ⟨_, e⟩ | ⟨h1, _, e | e⟩
        · exact absurd e hs0
        · have hh := (I.tk.hold _ ht).2 e
          exact run _ ht (fun h => not_holds (by omega) hh) (fun ⟨⟨r, hr⟩, _⟩ => by obtain ⟨r', hr'⟩ := hh; omega)
        · have hfl : flyN f = 1 := by rw [e]; rfl
          by_cases h7 : (D (L.m0 + tgt L s)).stage ≤ 7
          · -- its target has ended: so have all
            exfalso
            apply hall
            intro q hq
            have hst := snd_tgt G h1
            have hr := I.tk.left _ ht
            have hrq := I.tk.left q hq
            unfold rcv at hr hrq
            rw [if_pos rfl, hfl] at hr
            have hpos : 1 ≤ snd L s (tgt L s) := by
              rcases Nat.eq_zero_or_pos (snd L s (tgt L s)) with h0 | h0
              · rw [h0] at hst; omega
              · exact h0
            have hsk : snd L s (tgt L s) = L.k + 1 := by omega
            by_cases hqt : q = tgt L s
            · rw [hqt]; exact h7
            · rw [if_neg hqt] at hrq
              -- the gives to q
              have h0 : tgt L s = 0 := by
                rcases Nat.eq_zero_or_pos (tgt L s) with e | e
                · exact e
                · have hr0 := I.tk.left 0 (by omega)
                  unfold rcv at hr0
                  rw [if_neg (by omega)] at hr0
                  have hle : snd L s (tgt L s) ≤ snd L s 0 := Nat.div_le_div_right (by omega)
                  omega
              rw [hsk, h0, Nat.mul_add, Nat.mul_one] at hst
              have hk : snd L s q = L.k := by
                unfold snd
                have e1 : s + L.n - 1 - q = L.n * L.k + (L.n - q) := by omega
                rw [e1, Nat.mul_add_div (by omega), Nat.div_eq_of_lt (by omega)]
                rfl
              obtain ⟨g, hg, hw⟩ := I.com.wk q hq
              have h89 : (D (L.m0 + q)).stage ≤ 7 ∨ 9 ≤ (D (L.m0 + q)).stage := by
                generalize (D (L.m0 + q)).stage = x at hw
                generalize (D (L.m0 + q)).fuel = x2 at hw
                generalize (D (L.m0 + q)).deaf = x3 at hw
                cases hw <;> omega
              by_cases h9 : 9 ≤ (D (L.m0 + q)).stage
              · have h10 : (D (L.m0 + q)).stage = 9 := by omega
                have := (I.tk.hold q hq).1 ⟨0, h10⟩
                rw [this] at hfl
                cases hfl
              · omega
          · exact run _ ht (by omega) (I.tk.park _ ht hfl rfl)
    | last z _ h2 h3 _ =>
      obtain ⟨q, hq, rfl⟩ := wk z h2 (by omega)
      exact run q hq (by omega) (not_parked (by omega))
    | fin h1 _ => exact h1.elim

theorem all_awake (G : Geo L) (hAr : ∀ g w, Anch g w → g.status = .running) (I : InvAt L Anch Back t₀ gs w j s f D tag f0 d0 a st sm t) : ∀ g ∈ gs, awake g := by
  have hm0 := G.m0
  intro g hg
  obtain ⟨i, hi⟩ := Array.mem_iff_getElem?.1 hg
  have hlt : i < L.m0 + j := by have := (Array.getElem?_eq_some_iff.1 hi).1; rw [I.com.size] at this; exact this
  rcases Nat.eq_zero_or_pos i with rfl | hp
  · rw [I.main] at hi; cases hi
    intro tm
    rcases I.cs.status hAr with ⟨hs, _⟩ | ⟨hs, _⟩ <;> rw [hs] <;> simp
  · rcases Nat.lt_or_ge i L.m0 with ho | hw
    · obtain ⟨g', hg', _, hQ⟩ := I.com.old i hp ho
      rw [hi] at hg'; cases hg'
      exact awake_of (hQ.status.elim .inl fun x => .inr (.inr x))
    · obtain ⟨q, rfl⟩ : ∃ q, i = L.m0 + q := ⟨i - L.m0, by omega⟩
      obtain ⟨g', hg', hW⟩ := I.com.wk q (by omega)
      rw [hi] at hg'; cases hg'
      exact hW.awake

/-- THE go STATEMENT. -/
theorem stepSpawn (G : Geo L) (H : T0 L.tl B₀ t₀) (I : InvAt L Anch Back t₀ gs w j s f D tag f0 d0 a st sm t) {r : Nat} (hr : r < L.n) (htag : tag = .sp r 2) (hj : j = L.n - (r + 1)) (hd0 : d0 = 0) (hg : AtGoS L j (Spawns L Anch r) a w) :
    ∃ m₁ ops, runT L.P (crowd gs w sl) 0 = (.next m₁, ops) ∧ ∃ μ', Lt2 μ' (mu L (L.m0 + j) D tag f0) ∧ Inv L Anch Back t₀ μ' m₁ (t ++ ops) := by
  have hm0 := G.m0
  have O := tok G
  subst htag
  subst hd0
  obtain ⟨_, a', child, hsp, hC, hNext⟩ := hg
  have hs0 : s = 0 := I.pre.1 trivial
  subst hs0
  have hfp : f = .pre := by
    rcases I.tk.form with ⟨e, _⟩ | ⟨h1, _⟩
    · exact e
    · omega
  have hrun := runT_crowd_spawn (P := L.P) (sl := sl) (i := 0) I.main (by simpa using hsp)
  rw [ofEvents_none] at hrun
  have hsz := I.com.size
  -- the child's first situation
  obtain ⟨y, hyW, hy1, hy2, hy3, hy4, hy5⟩ : ∃ y : WD, WS L j 0 y.stage y.fuel y.deaf child w ∧ (y.stage - 8) / 2 = L.k ∧ ¬ Holds y.stage ∧ 7 ≤ y.stage ∧ y.stage ≤ 2 * L.k + 8 ∧ y.deaf = 0 := by
    cases hk : L.k with
    | zero =>
      rw [hk] at hC
      obtain ⟨m, hm⟩ := hC
      exact ⟨⟨7, m, 0⟩, .r0 hm, by simp, not_holds (by simp), by simp, by simp, rfl⟩
    | succ k =>
      rw [hk] at hC
      obtain ⟨m, hm⟩ := hC
      exact ⟨⟨2 * k + 10, m + 1, 0⟩, .seat hm, by simp only; omega, fun ⟨x, e⟩ => by simp only at e; omega, by simp only; omega, by simp only; omega, rfl⟩
  have hx : ({ g := 0, fn := a.frame.fn, pos := a.frame.place, act := .go gs.size } : MemOp).g = 0 ∧ ({ g := 0, fn := a.frame.fn, pos := a.frame.place, act := .go gs.size } : MemOp).act = .go (L.m0 + j) := ⟨rfl, by rw [hsz]⟩
  have hy : ({ g := gs.size, fn := child.frame.fn, pos := a.frame.place, act := .start } : MemOp).g = L.m0 + j ∧ ({ g := gs.size, fn := child.frame.fn, pos := a.frame.place, act := .start } : MemOp).act = .start := ⟨hsz, rfl⟩
  have hops : ((#[] : Trace).push { g := 0, fn := a.frame.fn, pos := a.frame.place, act := .go gs.size } |>.push { g := gs.size, fn := child.frame.fn, pos := a.frame.place, act := .start }) = #[{ g := 0, fn := a.frame.fn, pos := a.frame.place, act := .go gs.size }, { g := gs.size, fn := child.frame.fn, pos := a.frame.place, act := .start }] := by simp
  rw [hops] at hrun
  generalize ({ g := 0, fn := a.frame.fn, pos := a.frame.place, act := .go gs.size } : MemOp) = x at hx hrun
  generalize ({ g := gs.size, fn := child.frame.fn, pos := a.frame.place, act := .start } : MemOp) = z at hy hrun
  have hmm : ∀ op ∈ #[x, z], op = x ∨ op = z := by intro op hop; simpa using hop
  have hst : ∀ op ∈ #[x, z], op.act ≠ .mark .disable ∧ op.act ≠ .mark .enable := by
    intro op hop
    rcases hmm op hop with rfl | rfl
    · rw [hx.2]; exact ⟨by simp, by simp⟩
    · rw [hy.2]; exact ⟨by simp, by simp⟩
  have hnt : ∀ op ∈ #[x, z], op.act.touch? = none := by
    intro op hop
    rcases hmm op hop with rfl | rfl
    · rw [hx.2]; rfl
    · rw [hy.2]; rfl
  have hDs : ∀ g, Deaf (t ++ #[x, z]) g = Deaf t g := fun g => Deaf_still t g _ hst
  have htr : RT L.tl t₀ (j + 1) (t ++ #[x, z]) (SumK (t ++ #[x, z]) f) := I.com.tr.fork H O (fun _ => SumK.app) hx hy I.com.deaf0 (I.com.deafN _ (Nat.le_refl _))
  have hDu : ∀ b, b < L.m0 + j → upd D (L.m0 + j) y b = D b := fun b hb => upd_ne D _ (by omega)
  have hgs : ∀ (b : Nat) (g : Goroutine), 0 < b → gs[b]? = some g → ((gs.setIfInBounds 0 a').push child)[b]? = some g := fun b g hb hgb => by
    have hlt := (Array.getElem?_eq_some_iff.1 hgb).1
    rw [Array.getElem?_push_lt (by simpa using hlt), ← Array.getElem?_eq_getElem, Array.getElem?_setIfInBounds_ne (by omega)]
    exact hgb
  have hgc : ((gs.setIfInBounds 0 a').push child)[L.m0 + j]? = some child := by
    have : ((gs.setIfInBounds 0 a')).size = L.m0 + j := by simpa using hsz
    rw [← this, Array.getElem?_push_size]
  have hg0 : ((gs.setIfInBounds 0 a').push child)[0]? = some a' := by
    rw [Array.getElem?_push_lt (by simp; omega), ← Array.getElem?_eq_getElem, Array.getElem?_setIfInBounds_self_of_lt (by omega)]
  have hcom : Com L t₀ (j + 1) (0 - 1) f ((gs.setIfInBounds 0 a').push child) w (t ++ #[x, z]) (upd D (L.m0 + j) y) 0 := by
    refine ⟨by simp [hsz]; omega, by omega, by rw [hDu 0 (by omega)]; exact I.com.z, fun b hb0 hb => ?_, fun q hq => ?_, htr, by rw [hDs]; exact I.com.deaf0, fun b hb0 hb => ?_, fun b hb => by rw [hDs]; exact I.com.deafN b (by omega), fun q hq hst' => ?_⟩
    · obtain ⟨g, hgb, h1, h2⟩ := I.com.old b hb0 hb
      exact ⟨g, hgs b g hb0 hgb, by rw [hDu b (by omega)]; exact h1, by rw [hDu b (by omega)]; exact h2⟩
    · rcases Nat.lt_or_ge q j with hlt | hge
      · obtain ⟨g, hgq, hW⟩ := I.com.wk q hlt
        exact ⟨g, hgs _ g (by omega) hgq, by rw [hDu _ (by omega)]; exact hW⟩
      · obtain rfl : q = j := by omega
        exact ⟨child, hgc, by rw [upd_same]; exact hyW⟩
    · rw [hDs]
      rcases Nat.lt_or_ge b (L.m0 + j) with hlt | hge
      · rw [hDu b hlt]; exact I.com.deafW b hb0 hlt
      · obtain rfl : b = L.m0 + j := by omega
        rw [upd_same, hy5]; exact I.com.deafN _ (Nat.le_refl _)
    · rcases Nat.lt_or_ge q j with hlt | hge
      · rw [hDu _ (by omega)] at hst'
        obtain ⟨r', hr'⟩ := I.com.rel q hlt hst'
        exact ⟨r', relby_mute hr' hnt⟩
      · obtain rfl : q = j := by omega
        rw [upd_same] at hst'; omega
  have htk : Tk L (j + 1) 0 f (upd D (L.m0 + j) y) w := by
    have hrc : ∀ q, q < L.n → rcv L f 0 q = 0 := fun q hq => by unfold rcv; rw [snd_zero G hq]; simp
    refine ⟨I.tk.chan, .inl ⟨hfp, rfl⟩, I.tk.sum, fun q hq => ?_, fun q hq => ?_, fun q hq hf _ => by rw [hfp] at hf; cases hf⟩
    · rcases Nat.lt_or_ge q j with hlt | hge
      · rw [hDu _ (by omega)]; exact I.tk.hold q hlt
      · obtain rfl : q = j := by omega
        rw [upd_same]
        exact ⟨fun hh => absurd hh hy2, fun e => by rw [hfp] at e; cases e⟩
    · rcases Nat.lt_or_ge q j with hlt | hge
      · rw [hDu _ (by omega)]; exact I.tk.left q hlt
      · obtain rfl : q = j := by omega
        rw [upd_same, hrc q (by omega), hy1]; omega
  have hV : Vc (L.m0 + (j + 1)) (upd D (L.m0 + j) y) = Vc (L.m0 + j) D + 1 := by
    have e1 : Vc (L.m0 + (j + 1)) (upd D (L.m0 + j) y) = Vc (L.m0 + j) (upd D (L.m0 + j) y) + cnt (upd D (L.m0 + j) y (L.m0 + j)) := rfl
    rw [e1, upd_same]
    have e2 : Vc (L.m0 + j) (upd D (L.m0 + j) y) = Vc (L.m0 + j) D := sumTo_upd_out D y cnt (Nat.le_refl _)
    have e3 : cnt y = 1 := by simp only [cnt]; rw [if_pos (by omega)]
    omega
  have hS : Ssum (L.m0 + (j + 1)) (upd D (L.m0 + j) y) = Ssum (L.m0 + j) D + y.stage := by
    have e1 : Ssum (L.m0 + (j + 1)) (upd D (L.m0 + j) y) = Ssum (L.m0 + j) (upd D (L.m0 + j) y) + (upd D (L.m0 + j) y (L.m0 + j)).stage := rfl
    rw [e1, upd_same]
    have e2 : Ssum (L.m0 + j) (upd D (L.m0 + j) y) = Ssum (L.m0 + j) D := sumTo_upd_out D y WD.stage (Nat.le_refl _)
    omega
  have hm := I.mode
  have hwg := I.wg
  cases hm with
  | opn h1 h2 h3 =>
    have ho : OpenSt (L.m0 + (j + 1)) (upd D (L.m0 + j) y) := fun b hb => by
      rcases Nat.lt_or_ge b (L.m0 + j) with hlt | hge
      · rw [hDu b hlt]; exact h2 b hlt
      · obtain rfl : b = L.m0 + j := by omega
        rw [upd_same]; exact .inl (by omega)
    have hst' : ((Vc (L.m0 + j) D + pend (.sp r 2) : Nat) : Int) = ((Vc (L.m0 + (j + 1)) (upd D (L.m0 + j) y) + 0 : Nat) : Int) := by rw [hV]; rfl
    rw [hst'] at hwg
    cases r with
    | zero =>
      obtain ⟨m, hGo⟩ := hNext
      refine ⟨_, _, hrun, mu L (L.m0 + (j + 1)) (upd D (L.m0 + j) y) .give m, ?_, _, w, sl, j + 1, 0, f, _, .give, m, 0, a', _, _, rfl, ⟨hg0, ?_, hcom, hwg, .opn trivial ho (by simp), htk, ?_⟩, rfl⟩
      · refine Prod.Lex.left _ _ ?_
        rw [hS]
        simp only [phi]
        omega
      · have e : j + 1 = L.n := by omega
        rw [e]; exact .give hGo
      · exact ⟨fun _ => rfl, fun _ => trivial⟩
    | succ r =>
      obtain ⟨m, hGo⟩ := hNext
      refine ⟨_, _, hrun, mu L (L.m0 + (j + 1)) (upd D (L.m0 + j) y) (.sp r 5) m, ?_, _, w, sl, j + 1, 0, f, _, .sp r 5, m, 0, a', _, _, rfl, ⟨hg0, ?_, hcom, hwg, .opn trivial ho (by simp), htk, ?_⟩, rfl⟩
      · refine Prod.Lex.left _ _ ?_
        rw [hS]
        simp only [phi]
        rw [Nat.mul_add (2 * L.k + 40) (r + 1) 1, Nat.mul_one]
        omega
      · have e : j + 1 = L.n - (r + 1) := by omega
        rw [e]; exact .skd (by omega) hGo
      · exact ⟨fun _ => rfl, fun _ => trivial⟩
  | reg h1 _ _ => exact h1.elim
  | last z h1 _ _ _ => exact h1.elim
  | fin h1 _ => exact h1.elim
end
end Go.Proofs.Ytejedbknpjffkaa.Rl
