/- THE RELAY: Relay, called by goroutine 0 beside goroutines that only leave. (Steps printed by rlwalk.py.) -/
import Derived.Test.YtejedbknpjffkaaRlAb
namespace Go.Proofs.Ytejedbknpjffkaa.Rl
open Go Go.Conc Go.Conc.Lib Go.RowKit Go.ConcR.Gen
open Go.ConcN (WgLive ShN)
open Go.ConcR (WgAt wgBlock)

/-- A walk that turns nothing: the world at its stop is the one at hand. -/
theorem goes_at {P : Program} {Sh : Loc → Prop} {B : Nat} {Stop : Goroutine → World → Prop} {W : World} : ∀ {n : Nat} {g : Goroutine} {w : World}, AtRel W w → Goes P true AtRel Go.ConcR.DC0 Stop n g w →
    Goes P true AtRel (DL Sh B) (fun g' w' => Stop g' w' ∧ AtRel W w') n g w
  | 0, _, _, hr, h => fun w₁ h₁ => ⟨h w₁ h₁, atRel_trans _ _ _ hr h₁⟩
  | n + 1, g, w, hr, h => by
    rcases h with h | ⟨hs, h⟩
    · exact .inl fun w₁ h₁ => ⟨h w₁ h₁, atRel_trans _ _ _ hr h₁⟩
    · refine .inr ⟨hs, fun w₁ h₁ => ?_⟩
      have := h w₁ h₁
      revert this
      cases stepG P true g w₁ <;> simp only [GStep.goes, imp_self]
      rintro ⟨⟨e1, e2⟩, x⟩
      subst e1 e2
      exact ⟨by simp [DL], goes_at (atRel_trans _ _ _ hr h₁) x⟩

section
variable {Fin : Machine → Trace → Prop} {Sh : Loc → Prop} {N n k B : Nat} {W W0 : World} {cs : List Frame} {a : Goroutine}

/-- FROM THE LOOP's HEAD TO WHERE WAIT COMES BACK. -/
theorem to_relay (h1 : 1 ≤ n) (hn : n < 2147483648) (hx2 : n * k < 9223372036854775807) (hSh : ∀ a : Addr, N ≤ a.block → ¬ Sh (.cell a)) (hB : B ≤ N + 6 + n)
    (hM : MF W0 N n k 0 0 W) (hwg : WgAt 127 (N + 6 + n) W 0 0) (hch : ∀ i, i < n → W.heap[N + 4 + i]? = some (.chan 1 #[] false 0 0 false)) (hsm : W.heap[N + 5 + n]? = some (.cells #[.int .i64 0] 3))
    (hsp : ∀ m0, 0 < m0 → ∀ w, MF W0 N n k 0 0 w ∧ WgLive 127 (N + 6 + n) w → Spawns (lay N n k m0 Sh (N + 7 + n + n)) (AnchX W0 N n k m0 (N + 7 + n + n) Sh cs) n a w)
    (hg : ∀ T W', T.size = 36 → T[6]? = some (.pointer (some ⟨N + 5 + n, 0, none⟩)) → MF W0 N n k n n W' → (∃ Ty, W'.heap[N + 5 + n]? = some (.cells #[.int .i64 ((n * k : Nat) : Int)] Ty)) →
      To Try.prog Fin (fun l => Sh l ∨ ShN (N + 6 + n) l) (N + 7 + n + n) (acq24 T cs) W') : To Try.prog Fin Sh B a W := by
  rintro m t ⟨gs, w, sl, q, rfl, h0, ⟨d, rfl⟩, hL, hP⟩
  have hm0 : 0 < gs.size := (Array.getElem?_eq_some_iff.1 h0).1
  have hM' : MF W0 N n k 0 0 (W.at d) := hM.rely (m0 := gs.size) (Sh := Sh) (B := N + 7 + n + n) (RM.at W d)
  obtain ⟨N', m', t', hrun, hx⟩ := relay_join (L := lay N n k gs.size Sh (N + 7 + n + n)) (Anch := AnchX W0 N n k gs.size (N + 7 + n + n) Sh cs) (Back := BackX W0 N n k gs.size (N + 7 + n + n) Sh cs) (B₀ := B) (t₀ := t) (w := W.at d) (sl := sl)
    (geo hm0 h1 hn hx2 (Nat.le_refl _) hSh) ⟨hP, by simp only [lay, Lay.tl]; omega, by simp only [lay, Lay.tl]; omega⟩ (fun _ _ h => anch_runs h) (fun g w h => anch_goes hm0 h1 hn hx2 (Nat.le_refl _) hSh g w h)
    rfl h0 hL hwg hch ⟨3, hsm⟩ (hsp gs.size hm0 (W.at d) ⟨hM', ⟨0, 0, hwg⟩⟩)
  obtain ⟨gs', w', sl', a', q', rfl, _, h0', ⟨T, mB, hT, hT6, hMB, hG⟩, hL', hP', hs'⟩ := hx
  refine run_more hrun ?_
  have hG' := goes_at (Sh := fun l => Sh l ∨ ShN (N + 6 + n) l) (B := N + 7 + n + n) (W := w') (atRel_refl w') (goes_weaken (R' := AtRel) (fun _ _ ⟨d, e⟩ => by subst e; exact RM.at _ d) (fun _ _ _ h => h) (fun _ _ h => h) hG)
  exact To.walk hG' (fun g' W' ⟨⟨e, hM'', _⟩, hr⟩ => by
    obtain ⟨d', rfl⟩ := hr
    subst e
    exact hg T _ hT hT6 hM'' hs') _ _ ⟨gs', w', sl', q', rfl, h0', atRel_refl w', hL', hP'⟩
end
end Go.Proofs.Ytejedbknpjffkaa.Rl
