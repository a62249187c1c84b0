/- The row of MachineSums: whatever the rows and the picks, true, and both read as before; conditions: none. -/
import Derived.Test.YtejedbknpjffkaaQ
import Derived.Test.YtejedbknpjffkaaRows
import Derived.ProofKit
import Derived.SizedLaws
import Derived.Deep.Matrix
import Derived.Deep.SlicePairs
import Derived.Conc.LeavingOf
namespace Go.Proofs.Ytejedbknpjffkaa
open Go.ChangeShapes Go.WideShapes Go.ChangeAt Go.RowKit

theorem Try.own : ownKnob Try.prog.godebug = none := by kernel_rfl
theorem Try.laidOut : laidOutB Try.prog = true := by kernel_rfl

/-- Who is alone at the return has nobody else that is still leaving. -/
theorem leaving_of_alone {P : Program} {m : Machine} {w : World} {t : Trace} (h : aloneAtReturn P m w t) : leavingAtReturn P m w t := by
  obtain ⟨⟨h1, h2⟩, h3, h4⟩ := h
  refine ⟨h3, ⟨fun g hg => ?_, h2⟩, h4⟩
  have := List.all_eq_true.1 h1 g hg
  have e : g.status = .finished := by simpa using this
  exact ⟨0, e⟩

theorem u8_wf {n : Int} (h : (Lit.int .u8 n).wf = true) : 0 ≤ n ∧ n < 256 := by
  simp only [Lit.wf, Bool.and_eq_true, decide_eq_true_eq] at h
  have e1 : IntKind.u8.min = 0 := by decide
  have e2 : IntKind.u8.max = 255 := by decide
  omega

section
variable {H : Type} {enc : TypeId × Value → H} {W : World}

theorem argL_of {fuel : Nat} {a0 : Option Addr} {len cap : Nat} {x : DataW H × List MemPlace} (h : DataW.trod enc Try.prog W 0 (fun _ => true) true fuel 22 [.slice a0 len cap] = some x) :
    ∃ A C rows, ArgL W.heap.size W a0 len A C rows := by
  rcases Deep.open_int_rows Try.underlying22 Try.underlying31 Try.underlying5 (by kernel_rfl) (by kernel_rfl) h with ⟨hcs, _⟩ | ⟨a, len', cap', A, L, C, Z, hcs, _, hl, hm, _, hrows⟩
  · simp at hcs
    obtain ⟨rfl, rfl, rfl⟩ := hcs
    exact ⟨fun _ => none, fun _ => 0, fun _ => [], fun r hr => absurd hr (by omega), fun r hr => absurd hr (by omega)⟩
  · simp at hcs
    obtain ⟨rfl, rfl, rfl⟩ := hcs
    refine ⟨A, C, fun r => (Z r).take (L r), fun r hr => ?_, fun r hr c z hz => ?_⟩
    · obtain ⟨h1, h2, h3, h4, _⟩ := hrows r (by omega)
      have hb := World.block_lt_of_cell? W _ h1
      rw [add_block] at hb
      refine ⟨a, rfl, hb, ?_⟩
      rw [List.length_take, h4, Nat.min_eq_left h2]
      exact h1
    · obtain ⟨h1, h2, h3, h4, h5, h6, h7⟩ := hrows r (by omega)
      obtain ⟨hc, hv⟩ := List.getElem?_eq_some_iff.1 hz
      have hcL : c < L r ∧ c < (Z r).length := by
        rw [List.length_take] at hc; omega
      have hz' : (Z r)[c] = z := by rw [← hv, List.getElem_take]
      have hwf := u8_wf (h5 z (by rw [← hz']; exact List.getElem_mem _))
      refine ⟨hwf.1, hwf.2, ?_⟩
      cases hA : A r with
      | none => have := h6 hA; omega
      | some a' =>
        have hcell := (h7 a' hA).2 c (by omega)
        have hb := World.block_lt_of_cell? W _ hcell
        rw [add_block] at hb
        refine ⟨a', rfl, hb, ?_⟩
        rw [hcell, List.getD_eq_getElem?_getD, List.getElem?_eq_getElem hcL.2, hz']; rfl

theorem argP_of {fuel : Nat} {a0 : Option Addr} {len cap : Nat} {x : DataW H × List MemPlace} (h : DataW.trod enc Try.prog W 0 (fun _ => true) true fuel 23 [.slice a0 len cap] = some x) :
    ∃ T, ArgP W.heap.size W a0 len T := by
  rcases Deep.open_slice_pairs Try.underlying23 Try.underlying38 (by kernel_rfl) rfl rfl (by kernel_rfl) (by kernel_rfl) h with ⟨hcs, _⟩ | ⟨a, len', cap', m, n, V0, V1, D0, D1, P0, P1, hcs, _, hl, hm, hmm, _, hrows⟩
  · simp at hcs
    obtain ⟨rfl, rfl, rfl⟩ := hcs
    exact ⟨fun _ => 0, fun r hr => absurd hr (by omega)⟩
  · simp at hcs
    obtain ⟨rfl, rfl, rfl⟩ := hcs
    simp only [if_true] at hmm
    have each : ∀ r, r < len → ∃ k : Int, V0 r = .int .i64 k := by
      intro r hr
      obtain ⟨h1, h2, h3, h4⟩ := hrows r (by omega)
      obtain ⟨k, hk, _⟩ := DataW.trod_int Try.underlying3 h3
      exact ⟨k, by simpa using hk⟩
    obtain ⟨T, hT⟩ := Deep.choose_lt each
    refine ⟨T, fun r hr => ?_⟩
    obtain ⟨h1, _⟩ := hrows r (by omega)
    have hb := World.block_lt_of_cell? W _ h1
    rw [add_block] at hb
    exact ⟨a, rfl, hb, by rw [h1, hT r hr]⟩
end

theorem shut_true {H : Type} {enc : TypeId × Value → H} {W : World} {base : Nat} {sp : Nat → Bool} {held : Bool} (b : Bool) : DataW.Trod enc Try.prog W base sp held 4 (.bool b) (.lit (.bool b)) [] := ⟨1, by simp [DataW.trod, Value.cells, Try.underlying4]⟩

set_option maxRecDepth 100000 in
theorem sums_handed (os : Os) (started : os.Started) (H : Type) (enc : TypeId × Value → H) :
    ReturnsInHanded {} Try.checked os 3 .any (Rows.machineSumsSpec.pre6 enc Try.prog Try.f3 [] false) (Rows.machineSumsSpec.post enc Try.prog Try.f3 false true false false) := by
  refine returnsInHanded_of_change_sized (C := Try.checked) Try.own started (by kernel_rfl) Try.func3
    (ChangeSpec.witness6 (enc := enc) (C := Try.checked) false ⟨#[], #[.slice none 0 0, .slice none 0 0], []⟩ 8 (by kernel_rfl) (by kernel_rfl) (by kernel_rfl) (by kernel_rfl)) ?_
  intro W base args ds gs before hval0 hW _ _ _
  have hval : ∀ (j : Nat) t v, Try.f3.params[j]? = some t → args[j]? = some v → Value.okWide Try.prog W .any base t v := hval0
  have hW' := hW
  obtain ⟨p, q, hA0, hV, rfl, _, _⟩ := hW
  have hA : DataW.TrodAll enc Try.prog W 0 (fun _ => true) true Try.f3.params.toList args.toList ds p := hA0
  rw [Try.params3] at hA hval
  obtain ⟨v0, v1, d0, d1, p0, p1, rfl, rfl, rfl, h0, h1⟩ := trodAll_two hA
  obtain ⟨rfl, rfl⟩ := trodVars_none hV
  obtain ⟨al, nl, cl, rfl⟩ := okWide_slice Try.underlying22 (hval 0 22 v0 rfl rfl)
  obtain ⟨ap, np, cp, rfl⟩ := okWide_slice Try.underlying23 (hval 1 23 v1 rfl rfl)
  clear hA0 hval0
  simp only [List.append_nil] at hW'
  have hlt : ∀ x ∈ p0 ++ p1, x.block < W.heap.size := fun x hx => by simpa using hW'.lt x hx
  have h0k := h0
  have h1k := h1
  obtain ⟨f0, hf0⟩ := h0
  obtain ⟨f1, hf1⟩ := h1
  obtain ⟨A, C, rows, hL⟩ := argL_of hf0
  obtain ⟨T, hP⟩ := argP_of hf1
  refine (sums_any W al ap nl cl np cp A C rows T hL hP).mono fun e W' ⟨he, hc⟩ => ?_
  refine ⟨_, he, _, _, _, [], p0 ++ p1, [], hW', trodAll_mk1 (shut_true true), ?_, rfl, hc.below.frame _, fun h => by cases h⟩
  exact trodAll_mk2 (Below.trod Try.laidOut (by kernel_rfl) (of_decide_eq_true (by kernel_rfl)) h0k hc.below (fun x hx => hlt x (List.mem_append_left _ hx)))
    (Below.trod Try.laidOut (by kernel_rfl) (of_decide_eq_true (by kernel_rfl)) h1k hc.below (fun x hx => hlt x (List.mem_append_right _ hx)))

theorem machineSums_holds : Rows.MachineSumsSaid :=
  OpenClaim.holds_of_wide_leaving 3 Try.f3 rfl rfl rfl rfl rfl rfl rfl ⟨rfl, rfl, rfl, rfl, rfl⟩ rfl rfl rfl rfl rfl (by kernel_rfl) Try.func3 (by kernel_rfl)
    (of_decide_eq_true (by kernel_rfl)) (by unfold Func.isWrapper; first | (rw [if_pos (by decide +kernel)]; kernel_rfl) | (rw [if_neg (by decide +kernel)]; exact ⟨rfl, rfl⟩))
    (fun os started H enc _ enter => (sums_handed os started H enc enter).mono (fun _ _ _ h => leaving_of_alone h) (fun _ h => h))

#print axioms machineSums_holds

end Go.Proofs.Ytejedbknpjffkaa
