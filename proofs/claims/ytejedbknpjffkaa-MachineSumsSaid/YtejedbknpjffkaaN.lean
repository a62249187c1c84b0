/- The chapter's examples hold; conditions: closed. -/
import Derived.Test.YtejedbknpjffkaaM
namespace Go.Proofs.Ytejedbknpjffkaa
open Go.RowKit

theorem MInv.be {fr : Nat → Prop} {w : World} {pc bw pm : Nat} {x x' st : Int} {ts ts' : List Th} (h : MInv fr w pc bw pm x st ts) (hx : x = x') (ht : ts = ts') : MInv fr w pc bw pm x' st ts' := by
  subst hx; subst ht; exact h

/-- What comes behind keeps what lay ahead. -/
theorem Kp.past {n : Nat} {w a b : World} (h : Ch [] w a) (k : Kp (fun z => z < n) a b) (hn : w.heap.size ≤ n) : Ch [] w b := Kp.after h (k.less (fun _ hz => Nat.lt_of_lt_of_le hz hn))

theorem addr0 (g j : Nat) : (⟨g, 0, none⟩ : Addr).add j = ⟨g, j, none⟩ := by unfold Addr.add; split <;> simp_all

theorem MInv.over' {fr : Nat → Prop} {w : World} {pc bw pm : Nat} {x st : Int} {ts : List Th} (h : MInv fr w pc bw pm x st ts) {b : Bool} (hb : (sel (live ts) ts.length).isEmpty = b) : Calls Try.prog 16 #[.pointer (some ⟨pm, 0, none⟩)] w fun e w' => e = .returned (.bool b) ∧ Ch [] w w' := by
  rw [← hb]; exact h.over

theorem MInv.pc_lt {fr : Nat → Prop} {w : World} {pc bw pm : Nat} {x st : Int} {ts : List Th} (h : MInv fr w pc bw pm x st ts) : pc < w.heap.size := by
  obtain ⟨κ, bs, tv, h⟩ := h
  exact lt_of_heap h.cells.hc

set_option maxRecDepth 100000 in
set_option maxHeartbeats 4000000 in
theorem works_any (w : World) : Calls Try.prog 9 #[] w fun e w' => e = .returned (.bool true) ∧ Ch [] w w' := by
  have g1 : True := trivial
  have g2 : True := trivial
  have g3 : True := trivial
  have g4 : True := trivial
  have g5 : True := trivial
  have g6 : True := trivial
  go_enter Try.func9, Try.ntmps9
  go_wp2_with (first | (go_at_call 37; clear g1; refine (two_any _).mono ?_; rintro e w1 ⟨pc, bw, pm, rfl, h0, hc1⟩) | (go_at_call 14; refine (MInv.pick_yes h0 (t := 0) (th := ⟨[1, 2], []⟩) (d := 1) rfl rfl).mono ?_; clear h0; rintro e w2 ⟨rfl, h2, hk⟩; replace h2 := h2.be (x' := 1) (ts' := [⟨[1, 2], [1]⟩, ⟨[10], []⟩]) (by kernel_rfl) (by kernel_rfl); have hc2 := Kp.past hc1 hk (Nat.le_refl _); clear hk hc1) | (go_at_call 14; refine (MInv.pick_yes h2 (t := 1) (th := ⟨[10], []⟩) (d := 10) rfl rfl).mono ?_; clear h2; rintro e w3 ⟨rfl, h3, hk⟩; replace h3 := h3.be (x' := 11) (ts' := [⟨[1, 2], [1]⟩, ⟨[10], [11]⟩]) (by kernel_rfl) (by kernel_rfl); have hc3 := Kp.past hc2 hk (Nat.le_refl _); clear hk hc2) | (go_at_call 14; refine (MInv.pick_no h3 1 0 rfl).mono ?_; rintro e w4 ⟨rfl, hk⟩; have h4 := h3.ch0 hk; have hc4 := hc3.trans hk; clear h3 hc3 hk) | (go_at_call 14; refine (MInv.pick_yes h4 (t := 0) (th := ⟨[1, 2], [1]⟩) (d := 2) rfl rfl).mono ?_; clear h4; rintro e w5 ⟨rfl, h5, hk⟩; replace h5 := h5.be (x' := 13) (ts' := [⟨[1, 2], [1, 13]⟩, ⟨[10], [11]⟩]) (by kernel_rfl) (by kernel_rfl); have hc5 := Kp.past hc4 hk (Nat.le_refl _); clear hk hc4) | (go_at_call 14; refine (MInv.pick_no h5 0 0 rfl).mono ?_; rintro e w6 ⟨rfl, hk⟩; have h6 := h5.ch0 hk; have hc6 := hc5.trans hk; clear h5 hc5 hk) | (go_at_call 37; clear g2; refine (two_any _).mono ?_; rintro e w7 ⟨pd, bx, pn, rfl, k0, hk⟩; have h7 := h6.ch0 hk; have hc7 := hc6.trans hk; have hp6 := h6.pc_lt; have hs6 := hc6.size; clear hk h6 hc6) | (go_at_call 15; clear g3; refine h7.load.mono ?_; rintro e w8 ⟨rfl, h8, hk, hch⟩; have k8 := k0.kept hch (by simpa using hp6); have hc8 := Kp.past hc7 hk (Nat.le_refl _); clear h7 hk hch k0 hp6 hc7) | (go_at_call 39; refine (MInv.values h8 (t := 0) (n := 2) (th := ⟨[1, 2], [1, 13]⟩) rfl rfl (by omega)).mono ?_; rintro e w9 ⟨ga, ca, rfl, hr9, hk⟩; have h9 := h8.ch0 hk; have k9 := k8.ch0 hk; have hc9 := hc8.trans hk; clear h8 k8 hc8 hk) | (go_at_call 38; clear g4; refine (ints_2 _ ga w9.heap.size _ _ 1 13 (row_cell (ownsRow_ch hr9 ((Ch.refl [] _).alloc _) (by simp)) rfl) (cell_of (al_new rfl _) rfl) (row_cell (ownsRow_ch hr9 ((Ch.refl [] _).alloc _) (by simp)) rfl) (cell_of (al_new rfl _) rfl)).mono ?_; rintro e w10 ⟨rfl, hk⟩; have hk := ((Ch.refl [] w9).alloc _).trans hk; have h10 := h9.ch0 hk; have k10 := k9.ch0 hk; have hc10 := hc9.trans hk; clear h9 k9 hc9 hk hr9) | (go_at_call 39; refine (MInv.values h10 (t := 1) (n := 1) (th := ⟨[10], [11]⟩) rfl rfl (by omega)).mono ?_; rintro e w11 ⟨gb, cb, rfl, hr11, hk⟩; have h11 := h10.ch0 hk; have k11 := k10.ch0 hk; have hc11 := hc10.trans hk; clear h10 k10 hc10 hk) | (go_at_call 38; clear g5; refine (ints_1 _ gb w11.heap.size _ _ 11 (row_cell (ownsRow_ch hr11 ((Ch.refl [] _).alloc _) (by simp)) rfl) (cell_of (al_new rfl _) rfl)).mono ?_; rintro e w12 ⟨rfl, hk⟩; have hk := ((Ch.refl [] w11).alloc _).trans hk; have h12 := h11.ch0 hk; have k12 := k11.ch0 hk; have hc12 := hc11.trans hk; clear h11 k11 hc11 hk hr11) | (go_at_call 16; refine (h12.over' (b := true) (by kernel_rfl)).mono ?_; rintro e w13 ⟨rfl, hk⟩; have k13 := k12.ch0 hk; have hc13 := hc12.trans hk; clear h12 k12 hc12 hk) | (go_at_call 14; refine (MInv.pick_no k13 2 0 rfl).mono ?_; rintro e w14 ⟨rfl, hk⟩; have k14 := k13.ch0 hk; have hc14 := hc13.trans hk; clear k13 hc13 hk) | (go_at_call 14; refine (MInv.pick_kind k14 (t := 0) rfl 1 rfl).mono ?_; rintro e w15 ⟨rfl, hk⟩; have k15 := k14.ch0 hk; have hc15 := hc14.trans hk; clear k14 hc14 hk) | (go_at_call 15; clear g6; refine k15.load.mono ?_; rintro e w16 ⟨rfl, h16, hk, hch⟩; have hc16 := Kp.past hc15 hk hs6; clear hk hch k15 hc15) | fail)
  go_ret
  exact ⟨rfl, hc16⟩

end Go.Proofs.Ytejedbknpjffkaa
