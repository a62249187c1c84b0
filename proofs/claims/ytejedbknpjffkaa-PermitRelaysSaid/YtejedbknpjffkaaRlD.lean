/- THE RELAY: the walks through the group's Wait, in the relay's company. -/
import Derived.Test.YtejedbknpjffkaaRlL
namespace Go.Proofs.Ytejedbknpjffkaa.Rl
open Go Go.Conc Go.Conc.Lib Go.RowKit Go.ConcR.Gen
open Go.ConcN (ShN WgLive)
open Go.ConcN.Gen (WgLive.cell0 WgLive.cell1)
open Go.ConcR (KK wgBlock WgAt stA smA rd wr mk)

theorem goes_weaken {P : Program} {main : Bool} {R R' : World → World → Prop} {D D' : World → World → Array Event → Prop} {Stop Stop' : Goroutine → World → Prop} (hR : ∀ a b, R' a b → R a b) (hD : ∀ w w' es, D w w' es → D' w w' es) (hS : ∀ g w, Stop g w → Stop' g w) :
    ∀ {n : Nat} {g : Goroutine} {w : World}, Goes P main R D Stop n g w → Goes P main R' D' Stop' n g w
  | 0, _, _, h => fun w₁ h₁ => hS _ _ (h w₁ (hR _ _ h₁))
  | n + 1, g, w, h => by
    rcases h with h | ⟨hs, h⟩
    · exact .inl fun w₁ h₁ => hS _ _ (h w₁ (hR _ _ h₁))
    · refine .inr ⟨hs, fun w₁ h₁ => ?_⟩
      have := h w₁ (hR _ _ h₁)
      revert this
      cases stepG P main g w₁ <;> simp only [GStep.goes, imp_self]
      exact fun ⟨d, x⟩ => ⟨hD _ _ _ d, goes_weaken hR hD hS x⟩

theorem goes_mores {P : Program} {main : Bool} {R : World → World → Prop} {D : World → World → Array Event → Prop} {Stop : Goroutine → World → Prop} {n : Nat} {g : Goroutine} {w : World} (h : Goes P main R D Stop n g w) : ∀ k, Goes P main R D Stop (n + k) g w
  | 0 => h
  | k + 1 => (goes_mores h k).more
/-- A walk whose stop is a walk. -/
theorem goes_bind {P : Program} {main : Bool} {R : World → World → Prop} {D : World → World → Array Event → Prop} {Stop : Goroutine → World → Prop} (hr : ∀ w, R w w) (tr : ∀ a b c, R a b → R b c → R a c) {k : Nat} :
    ∀ {n : Nat} {g : Goroutine} {w : World}, Goes P main R D (fun g w => Goes P main R D Stop k g w) n g w → Goes P main R D Stop (n + k) g w
  | 0, g, w, h => by
    have := Goes.rely tr (h w (hr w)) (hr w)
    rw [Nat.zero_add]
    exact this
  | n + 1, g, w, h => by
    rcases h with h | ⟨hs, h⟩
    · have := goes_mores (h w (hr w)) (n + 1)
      rwa [Nat.add_comm] at this
    · rw [show n + 1 + k = (n + k) + 1 by omega]
      refine .inr ⟨hs, fun w₁ h₁ => ?_⟩
      have := h w₁ h₁
      revert this
      cases stepG P main g w₁ <;> simp only [GStep.goes, imp_self]
      exact fun ⟨d, x⟩ => ⟨d, goes_bind hr tr x⟩

theorem d0_dm {Y : Lay} {j : Nat} : ∀ w w' es, Go.ConcR.DC0 w w' es → DM Y j w w' es := fun w w' es ⟨h1, h2⟩ => by subst h1 h2; exact ⟨fun _ _ => rfl, by simp⟩

/-- A word said of the group's own places. -/
theorem evM_said {Y : Lay} (G : Geo Y) {j : Nat} {a : Addr} (ha : a.block = Y.Wg) {m : Mark} (hm : m = .read a ∨ m = .write a) : EvM Y j (mk m) := by
  have hlow : a.block < Y.B := by have := G.hWg; have := G.hB; omega
  rcases hm with rfl | rfl
  · refine ⟨fun x hx => ?_, by simp [mk], by simp [mk], by simp [mk], hlow⟩
    simp only [mk, MemAct.ofEvent, MemAct.touch?, Option.some.injEq] at hx
    subst hx
    exact ⟨.inl ⟨⟨a, rfl, ha⟩, by simp⟩, fun h => by simp at h⟩
  · refine ⟨fun x hx => ?_, by simp [mk], by simp [mk], by simp [mk], hlow⟩
    simp only [mk, MemAct.ofEvent, MemAct.touch?, Option.some.injEq] at hx
    subst hx
    exact ⟨.inl ⟨⟨a, rfl, ha⟩, by simp⟩, fun _ q _ hs => (tok G).stSh q _ hs ⟨a, rfl, ha⟩⟩

/-- What the starter knows beside the group, and how that is carried. -/
theorem fr_rely {Y : Lay} {F : World → Prop} (hF2 : ∀ w w', RM Y w w' → F w → F w') {w w₁ : World} (h : F w ∧ WgLive Y.ty Y.Wg w) (r : RM Y w w₁) : F w₁ ∧ WgLive Y.ty Y.Wg w₁ := ⟨hF2 _ _ r h.1, r.live h.2⟩

/-- THE ANCHOR: at the head of Wait's loop. -/
def Anch (Y : Lay) (L : WgLink) (F : World → Prop) (c : Frame) (cs : List Frame) (g : Goroutine) (w : World) : Prop :=
  ∃ T : Array Value, g = G ((base L.wait).at ⟨T, []⟩ [.code (L7 L), .inLoop (L7 L), .inBlock 0]) (c :: cs) ∧ T.size = 84 ∧ T[0]? = some (.pointer (some ⟨Y.Wg, 0, none⟩)) ∧ F w ∧ WgLive Y.ty Y.Wg w

section
variable {Y : Lay} {L : WgLink} {Back : Goroutine → World → Prop} {F : World → Prop} {b₀ : Frame} {a₀ : Act} {ops₀ : Array Oper} {i₀ : Nat} {rest₀ : List Nat} {k₀ : List Item} {cs : List Frame}

set_option maxRecDepth 100000 in
/-- FROM Wait's ENTRY TO THE LOOP's HEAD. -/
theorem waitStart (H : WgLib Y.P L) (hF2 : ∀ w w', RM Y w w' → F w → F w') (w : World) (hF : F w ∧ WgLive Y.ty Y.Wg w) :
    Goes Y.P true (RM Y) (DM Y Y.n) (AtKd Y (Anch Y L F (b₀.at a₀ (.inRegion ops₀ (i₀ :: rest₀) :: k₀)) cs)) 3
      (G ((base L.wait).at ⟨#[.pointer (some ⟨Y.Wg, 0, none⟩), undef, undef, undef, undef, undef, undef, undef, undef, undef, undef, undef, undef, undef, undef, undef, undef, undef, undef, undef, undef, undef, undef, undef, undef, undef, undef, undef, undef, undef, undef, undef, undef, undef, undef, undef, undef, undef, undef, undef, undef, undef, undef, undef, undef, undef, undef, undef, undef, undef, undef, undef, undef, undef, undef, undef, undef, undef, undef, undef, undef, undef, undef, undef, undef, undef, undef, undef, undef, undef, undef, undef, undef, undef, undef, undef, undef, undef, undef, undef, undef, undef, undef, undef], []⟩ [.code (body_wait L)]) (b₀.at a₀ (.inRegion ops₀ (i₀ :: rest₀) :: k₀) :: cs)) w := by
  refine goes_weaken (D := Go.ConcR.DC0) (fun _ _ h => h) d0_dm (fun _ _ h => h) ?_
  lib_facts
  simp only [body_wait, waitFn, Option.getD_some]
  u_c stepG_seq (fr_rely hF2) hF
  u_cond true (fr_rely hF2) hF
  u_reg (fr_rely hF2) hF
  refine Goes.stop (fun w₁ h₁ => ?_)
  replace hF := fr_rely hF2 hF h₁
  clear h₁
  refine ⟨rfl, _, stepG_mark0 .disable (by simp) rfl rfl (by k_ne) rfl H.f_disable (x_disable_n L) (x_disable_b L) (x_disable_x L) (x_disable_f L), 3, goes_weaken (D := Go.ConcR.DC0) (fun _ _ h => h) d0_dm (fun _ _ h => h) ?_⟩
  walk_nrm
  u_c stepG_region_end (fr_rely hF2) hF
  u_c stepG_block (fr_rely hF2) hF
  u_c stepG_loop (fr_rely hF2) hF
  exact Goes.stop (fun w₂ h₂ => ⟨_, rfl, by simp, by simp, fr_rely hF2 hF h₂⟩)
end
end Go.Proofs.Ytejedbknpjffkaa.Rl
