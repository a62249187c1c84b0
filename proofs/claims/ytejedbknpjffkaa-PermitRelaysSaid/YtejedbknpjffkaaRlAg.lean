/- The row of PermitRelays: whatever the two numbers, true; conditions: none. -/
import Derived.Test.YtejedbknpjffkaaRlAf
import Derived.Test.YtejedbknpjffkaaRows
import Derived.ProofKit
import Derived.SizedLaws
import Derived.Conc.LeavingOf
namespace Go.Proofs.Ytejedbknpjffkaa.Rl
open Go.ChangeShapes Go.WideShapes Go.ChangeAt Go.RowKit
open Go Go.Conc

theorem own_ : ownKnob Try.prog.godebug = none := by kernel_rfl

theorem u8_wf {n : Int} (h : (Lit.int .u8 n).wf = true) : 0 ≤ n ∧ n < 256 := by
  simp only [Lit.wf, Bool.and_eq_true, decide_eq_true_eq] at h
  have e1 : IntKind.u8.min = 0 := by decide
  have e2 : IntKind.u8.max = 255 := by decide
  omega

section
variable {H : Type} {enc : TypeId × Value → H} {W : World}
theorem shut_true {base : Nat} {sp : Nat → Bool} {held : Bool} (b : Bool) : DataW.Trod enc Try.prog W base sp held 4 (.bool b) (.lit (.bool b)) [] := ⟨1, by simp [DataW.trod, Value.cells, Try.underlying4]⟩
/-- An argument that is a byte. -/
theorem arg_u8 {v : Value} {d : DataW H} {p : List MemPlace} (hv : ∃ n, v = .int .u8 n) (h : DataW.Trod enc Try.prog W 0 (fun _ => true) true 5 v d p) :
    ∃ x : Nat, v = .int .u8 x ∧ x < 256 ∧ d = .lit (.int .u8 x) ∧ p = [] ∧ (Lit.int .u8 x).wf = true := by
  obtain ⟨n, rfl⟩ := hv
  obtain ⟨f, hf⟩ := h
  obtain ⟨n', hn, hx, hw⟩ := DataW.trod_int Try.underlying5 hf
  simp only [Value.cells, List.cons.injEq, Value.int.injEq, true_and, and_true] at hn
  subst hn
  have := u8_wf hw
  obtain ⟨x, rfl⟩ := Int.eq_ofNat_of_zero_le this.1
  cases hx
  exact ⟨x, rfl, by omega, rfl, rfl, hw⟩
theorem trod_u8 {base : Nat} {sp : Nat → Bool} {held : Bool} {x : Int} (hw : (Lit.int .u8 x).wf = true) : DataW.Trod enc Try.prog W base sp held 5 (.int .u8 x) (.lit (.int .u8 x)) [] := ⟨1, trod_int_mk 0 Try.underlying5 hw⟩
end

set_option maxRecDepth 100000 in
theorem relays_row (os : Os) (started : os.Started) (H : Type) (enc : TypeId × Value → H) :
    ReturnsInLeavingWide {} Try.checked os 5 .any (Rows.permitRelaysSpec.pre6 enc Try.prog Try.f5 [] false) (Rows.permitRelaysSpec.post enc Try.prog Try.f5 false true false false) := by
  refine returnsInLeavingWide_of_change_sized (C := Try.checked) own_ started Try.func5
    (ChangeSpec.witness6 (enc := enc) (C := Try.checked) false ⟨#[], #[.int .u8 0, .int .u8 0], []⟩ 8 (by kernel_rfl) (by kernel_rfl) (by kernel_rfl) (by kernel_rfl)) ?_
  intro W base args ds gs before hval0 hW _ _ _
  have hval : ∀ (j : Nat) t v, Try.f5.params[j]? = some t → args[j]? = some v → Value.okWide Try.prog W .any base t v := hval0
  have hW' := hW
  obtain ⟨p, q, hA0, hV, rfl, _, _⟩ := hW
  have hA : DataW.TrodAll enc Try.prog W 0 (fun _ => true) true Try.f5.params.toList args.toList ds p := hA0
  rw [Try.params5] at hA hval
  obtain ⟨v0, v1, d0, d1, p0, p1, rfl, rfl, rfl, h0, h1⟩ := trodAll_two hA
  obtain ⟨rfl, rfl⟩ := trodVars_none hV
  obtain ⟨x, rfl, hx, rfl, rfl, hwx⟩ := arg_u8 (okWide_int Try.underlying5 (hval 0 5 v0 rfl rfl)) h0
  obtain ⟨y, rfl, hy, rfl, rfl, hwy⟩ := arg_u8 (okWide_int Try.underlying5 (hval 1 5 v1 rfl rfl)) h1
  obtain ⟨M, last, o, w', t', h1, h2, h3, h4⟩ := run_of_to (relays_to W x y hx hy)
  refine ⟨M, last, o, w', t', h1, h2, h3, h4.mono fun v hp => ?_⟩
  obtain ⟨rfl, hb⟩ := hp
  exact ⟨_, _, _, [], [], [], hW', trodAll_mk1 (shut_true true), trodAll_mk2 (trod_u8 hwx) (trod_u8 hwy), rfl, hb.frame _, fun h => by cases h⟩

theorem relays_holds : Rows.PermitRelaysSaid :=
  OpenClaim.holds_of_wide_leaving 5 Try.f5 rfl rfl rfl rfl rfl rfl rfl ⟨rfl, rfl, rfl, rfl, rfl⟩ rfl rfl rfl rfl rfl (by kernel_rfl) Try.func5 (by kernel_rfl)
    (of_decide_eq_true (by kernel_rfl)) (by unfold Func.isWrapper; first | (rw [if_pos (by decide +kernel)]; kernel_rfl) | (rw [if_neg (by decide +kernel)]; exact ⟨rfl, rfl⟩))
    (fun os started H enc _ => relays_row os started H enc)
end Go.Proofs.Ytejedbknpjffkaa.Rl

namespace Go.Proofs.Ytejedbknpjffkaa
theorem permitRelays_holds : Rows.PermitRelaysSaid := Rl.relays_holds
end Go.Proofs.Ytejedbknpjffkaa
