/- The theorem of the stage: its walk; conditions: the arguments' cells are known. -/
import Derived.Test.YtejedbknpjffkaaP
namespace Go.Proofs.Ytejedbknpjffkaa
open Go.RowKit

theorem dtot_succ (rows : Nat → List Int) (k : Nat) : dtot (start rows (k + 1)) = dtot (start rows k) + ((rows k).take 10).sum := by
  rw [start_succ]
  unfold dtot
  simp [Th.tot]
theorem num_succ (rows : Nat → List Int) (k : Nat) : num (start rows (k + 1)) = num (start rows k) + min (rows k).length 10 := by
  rw [start_succ]
  unfold num
  simp [Nat.min_comm]

/-- How many tasks a thread has done. -/
def did (ts : List Th) (r : Nat) : Nat := (ts[r]?.map fun th => th.vs.length).getD 0

/-- Behind the second and third loop. -/
def Went (n : Nat) (w1 : World) (pc bw pm : Nat) (rows : Nat → List Int) (N : Nat) (dn : Value) (wr : World) : Prop :=
  ∃ ts s, Same rows N ts ∧ Fit ts ∧ dn = .int .i64 (cnt ts : Nat) ∧ MInv (fun z => z < n) wr pc bw pm (dsum ts % 18446744073709551616) s ts ∧ Kp (fun z => z < n) w1 wr

def Run (n ga : Nat) (w1 : World) (pc bw pm : Nat) (rows : Nat → List Int) (N : Nat) (dn sm : Value) (wr : World) : Prop :=
  ∃ ts s, Same rows N ts ∧ Fit ts ∧ dn = .int .i64 (cnt ts : Nat) ∧ sm = .int .u64 (dsum ts % 18446744073709551616) ∧ MInv (fun z => z < n ∨ z = ga) wr pc bw pm (dsum ts % 18446744073709551616) s ts ∧ Kp (fun z => z < n) w1 wr ∧
    wr.heap[ga]? = some (.cells ((List.range 6).map fun r => Value.int .i64 (did ts r : Nat)).toArray 3)

theorem make_ints (w : World) : (Instr.makeSlice 35 (.int .i64 6) (.int .i64 6)).run Try.prog w = .ok (.slice (some ⟨w.heap.size, 0, none⟩) 6 6) (w.alloc (.cells #[.int .i64 0, .int .i64 0, .int .i64 0, .int .i64 0, .int .i64 0, .int .i64 0] 3)) := by kernel_rfl

theorem did_start (rows : Nat → List Int) (k r : Nat) : did (start rows k) r = 0 := by
  unfold did start
  rw [List.getElem?_map]
  cases (List.range k)[r]? <;> rfl

theorem did_of {ts : List Th} {t : Nat} {th : Th} (h : ts[t]? = some th) : did ts t = th.vs.length := by unfold did; rw [h]; rfl

theorem did_step {ts : List Th} {t : Nat} {th : Th} (v : Int) (h : ts[t]? = some th) (r : Nat) : did (stepped ts t th v) r = if t = r then th.vs.length + 1 else did ts r := by
  unfold did stepped
  rw [List.getElem?_set]
  by_cases e : t = r
  · rw [if_pos e, if_pos e, if_pos (List.getElem?_eq_some_iff.1 h).1]; simp
  · rw [if_neg e, if_neg e]

theorem did_cell (ts : List Th) {t : Nat} (h : t < 6) : ((List.range 6).map fun r => Value.int .i64 (did ts r : Nat)).toArray[t]? = some (.int .i64 (did ts t : Nat)) := by
  rw [List.getElem?_toArray, List.getElem?_map, List.getElem?_range h]; rfl

theorem did_set {ts : List Th} {t : Nat} {th : Th} (v : Int) (h : ts[t]? = some th) :
    ((List.range 6).map fun r => Value.int .i64 (did ts r : Nat)).toArray.setIfInBounds t (.int .i64 ((th.vs.length : Int) + 1)) = ((List.range 6).map fun r => Value.int .i64 (did (stepped ts t th v) r : Nat)).toArray := by
  apply Array.ext
  · simp
  · intro i h1 h2
    simp only [List.setIfInBounds_toArray, List.getElem_toArray, List.getElem_set, List.getElem_map, List.getElem_range]
    rw [did_step v h]
    by_cases e : t = i
    · rw [if_pos e, if_pos e]; push_cast; rfl
    · rw [if_neg e, if_neg e]

theorem over_at {rows : Nat → List Int} {N : Nat} {ts : List Th} (hS : Same rows N ts) (hF : Fit ts) : (sel (live ts) ts.length).isEmpty = decide (cnt ts = num (start rows N)) := by
  rw [over_eq hF, (num_same ts (start rows N) hS).1]

theorem cnt_bound {rows : Nat → List Int} {N : Nat} {ts : List Th} (hS : Same rows N ts) (hF : Fit ts) (hN : N ≤ 6) : cnt ts ≤ 60 := by
  have h1 := cnt_le ts hF
  have h2 := (num_same ts (start rows N) hS).1
  have h3 := num_le rows N
  omega

set_option maxRecDepth 100000 in
set_option maxHeartbeats 4000000 in
theorem sums_any (w : World) (al ap : Option Addr) (nl cl np cp : Nat) (A : Nat → Option Addr) (C : Nat → Nat) (rows : Nat → List Int) (T : Nat → Int) (hl : ArgL w.heap.size w al nl A C rows) (hp : ArgP w.heap.size w ap np T) :
    Calls Try.prog 3 #[.slice al nl cl, .slice ap np cp] w fun e w' => e = .returned (.bool true) ∧ Ch [] w w' := by
  have hN := hidh (cells_new 1 (by omega))
  go_enter Try.func3, Try.ntmps3
  go_upto_block 0 with (first | (go_at_call 9; refine (works_any _).mono ?_; rintro e w1 ⟨rfl, hc1⟩) | (go_at_call 10; refine (hN.out _).mono ?_; rintro e w2 ⟨rfl, hC, hc2⟩) | (go_at_call 11; refine (mach_new _).mono ?_; rintro e w3 ⟨rfl, hw3⟩; obtain ⟨hI, hcw⟩ := two_start hC hc2 hw3; clear hC hc2 hw3) | fail)
  have hk0 : Kp (fun z => z < w1.heap.size) w1 w3 := Kp.ofCh hcw (fun z hz => ⟨hz, by simp⟩)
  replace hl := hl.ch (Kp.ofCh hc1 (fun z hz => ⟨hz, by simp⟩)) hc1.size
  replace hp := hp.ch (Kp.ofCh hc1 (fun z hz => ⟨hz, by simp⟩)) hc1.size
  clear hcw
  revert hI
  generalize w1.heap.size + 1 = pc
  generalize w2.heap.size = pm
  obtain ⟨n, hn⟩ : ∃ n, n = w1.heap.size := ⟨_, rfl⟩
  rw [← hn] at hk0 hl hp ⊢
  replace hn := hidh hn
  intro hI
  replace hI : ∃ bw, MInv (fun z => z < n) w3 pc bw pm 0 0 [] := ⟨_, hI⟩
  obtain ⟨bw, hI⟩ := hI
  go_cut [7, 8] from 9 (fun tot st wr => Built n w1 pc bw pm rows (min nl 6) tot st wr)
  case first =>
    go_wp2_with fail
    go_loopw [7, 8, 9] (fun tot st t wr => ∃ k : Nat, k ≤ nl ∧ k ≤ 6 ∧ t = .int .i64 k ∧ Built n w1 pc bw pm rows k tot st wr) (fun _ _ t _ => 6 - (intOf t).toNat)
    case atStart => exact ⟨0, by omega, by omega, rfl, rfl, rfl, ⟨_, hI⟩, hk0⟩
    case round =>
      obtain ⟨k, hk1, hk2, rfl, rfl, rfl, ⟨s, hM⟩, hKp⟩ := hrel
      by_cases h1 : k < nl
      · by_cases h2 : k < 6
        · obtain ⟨B, rfl⟩ : ∃ B : World, B = wr := ⟨_, rfl⟩
          have h2d : decide ((k : Int) < 6) = true := decide_eq_true (by omega)
          go_upto_block 2 with fail
          have hlB := hl.ch hKp (Nat.le_refl _)
          go_cut [7, 8, 10, 11] from 21 to 71 (fun tot st own i wr => Part B pc rows k (min (rows k).length 10) own tot st wr)
          case first =>
            go_wp2_with fail
            go_loopw [7, 8, 10, 11] (fun tot st own i wr => ∃ j : Nat, j ≤ (rows k).length ∧ j ≤ 10 ∧ i = .int .i64 j ∧ Part B pc rows k j own tot st wr) (fun _ _ _ i _ => 10 - (intOf i).toNat)
            case atStart => exact ⟨0, by omega, by omega, rfl, by simp, by simp, [], by simpa using Pend.nil B pc⟩
            case round =>
              obtain ⟨j, hj1, hj2, rfl, rfl, rfl, qs, hpd⟩ := hrel
              obtain ⟨a, rfl, hab, hcr⟩ := hlB.row k h1
              have hcw := ch_cell hpd.ch hcr
              by_cases g1 : j < (rows k).length
              · by_cases g2 : j < 10
                · obtain ⟨z, hz⟩ : ∃ z, (rows k)[j]? = some z := ⟨_, List.getElem?_eq_getElem g1⟩
                  obtain ⟨z0, z1, a', hA', hab', hcz⟩ := hlB.cell k h1 j z hz
                  rw [hA'] at hcr hcw
                  have hcw2 := ch_cell hpd.ch hcz
                  have hzw : IntKind.u64.wrap z = z := by rw [IntKind.wrap_u64]; omega
                  obtain ⟨i0, hi, hz0, hz1, hz2⟩ := info_parts info32
                  have hjl : ((rows k).take j).length = j := by rw [List.length_take]; omega
                  have hrow0 := hpd.row
                  rw [hjl] at hrow0
                  have HP := hidh hpd
                  have HZ := hidh hz
                  have HJ := hidh hjl
                  clear hpd hz hjl
                  go_wp2_with (first | (go_at_call 12; refine (task_add pc 0 z _).mono ?_; rintro e w4 ⟨rfl, hF, hc4, hs4⟩; clear hs4; have hrow4 := ownsRow_ch hrow0 hc4 (by simp); have hd1 := ch_cell (HP.out.ch.trans hc4) hcr; have hd2 := ch_cell (HP.out.ch.trans hc4) hcz) | (at_builtin; refine wpList_append_own _ rfl _ _ 30 rfl B.heap.size 32 i0 (.pointer none) 1 8 Try.underlying30 hi hz0 hz1 hz2 rfl (by decide) _ j (qs.map pv) rfl (hrow4.alloc _) ⟨w4.heap.size, 0, none⟩ 1 1 [pv (wr.heap.size + 4)] rfl rfl (cell_one_new _ _ _) (by simp [Value.oneCell', pv]) (by unfold maxLen; omega) (by omega) (by have := HP.out.ch.size; have := hc4.size; simp; omega) ?_; intro own' w5 hrow5 hg5 _; have HP5 := hidh (Pend.snoc HP.out hF hc4 (by rw [HJ.out]; exact hrow5) hg5); have he1 := ch_cell HP5.out.ch hcr; have he2 := ch_cell HP5.out.ch hcz; clear hrow5 hg5) | fail)
                  go_roundw
                  case rel =>
                    refine ⟨j + 1, by omega, by omega, by go_num, ?_, ?_, qs ++ [wr.heap.size + 4], ?_⟩
                    · rw [part_tot rows k j z HZ.out]
                    · have := num_le rows k
                      rw [wrap_id (by omega) (by omega)]
                      simp; omega
                    · rw [take_snoc _ _ _ HZ.out]; exact HP5.out
                  case measure => simp [intOf]; omega
                · obtain rfl : j = 10 := by omega
                  go_wp2_with fail
                  go_meet
                  rw [Nat.min_eq_right hj1]
                  exact ⟨rfl, rfl, qs, hpd⟩
              · obtain rfl : j = (rows k).length := by omega
                go_wp2_with fail
                go_meet
                rw [Nat.min_eq_left hj2]
                exact ⟨rfl, rfl, qs, hpd⟩
          case rest =>
            obtain ⟨rfl, rfl, qs, hpd⟩ := hcut
            rw [take_min] at hpd
            have hadd := hpd.add hM (by rw [start_len]; exact h2) (by rw [List.length_take]; omega)
            go_wp2_with (first | (go_at_call 13; refine hadd.mono ?_; clear hadd; rintro e w6 ⟨rfl, hM6, hk6⟩) | fail)
            go_roundw
            case rel => exact ⟨k + 1, by omega, by omega, by go_num, by rw [dtot_succ, take_min], by rw [num_succ]; push_cast; rfl, ⟨s, by rw [start_succ]; exact hM6⟩, hKp.trans hk6⟩
            case measure => simp [intOf]; omega
        · obtain rfl : k = 6 := by omega
          go_wp2_with fail
          go_meet
          exact ⟨by rw [Nat.min_eq_right hk1], by rw [Nat.min_eq_right hk1], ⟨_, by rw [Nat.min_eq_right hk1]; exact hM⟩, hKp⟩
      · obtain rfl : k = nl := by omega
        go_wp2_with fail
        go_meet
        exact ⟨by rw [Nat.min_eq_left hk2], by rw [Nat.min_eq_left hk2], ⟨_, by rw [Nat.min_eq_left hk2]; exact hM⟩, hKp⟩
  case rest =>
    obtain ⟨rfl, rfl, ⟨s, hM⟩, hKp⟩ := hcut
    have hmk := make_ints wc
    go_upto_block 4 with fail
    clear hmk hI hk0
    have hng : n ≤ wc.heap.size := by have h1 := hKp.size; have h2 := hn.out; omega
    have hNl : min nl 6 ≤ nl := Nat.min_le_left _ _
    have hN6 : min nl 6 ≤ 6 := Nat.min_le_right _ _
    revert hM hNl hN6
    generalize min nl 6 = N
    intro hM hNl hN6
    obtain ⟨W0, hW0⟩ : ∃ W0, wc.alloc (Obj.cells #[Value.int IntKind.i64 0, Value.int IntKind.i64 0, Value.int IntKind.i64 0, Value.int IntKind.i64 0, Value.int IntKind.i64 0, Value.int IntKind.i64 0] 3) = W0 := ⟨_, rfl⟩
    have hc0 : Ch [] wc W0 := by rw [← hW0]; exact (Ch.refl _ _).alloc _
    have hat0 : W0.heap[wc.heap.size]? = some (.cells #[Value.int IntKind.i64 0, Value.int IntKind.i64 0, Value.int IntKind.i64 0, Value.int IntKind.i64 0, Value.int IntKind.i64 0, Value.int IntKind.i64 0] 3) := by rw [← hW0]; exact al_new rfl _
    have hM0 := (hM.more hc0).less (fr' := fun z => z < n ∨ z = wc.heap.size) (fun z hz => hz.imp id (fun e => by rw [e]; exact ⟨Nat.le_refl _, lt_of_heap hat0⟩))
    have hKp0 := hKp.trans (Kp.ofCh hc0 (fun z hz => ⟨hM.fr_lt hz, by simp⟩))
    rw [hW0]
    clear hW0 hc0 hKp hM
    revert hat0 hM0 hng
    generalize wc.heap.size = ga
    intro hng hat0 hM0
    go_cut [12] from 13 (fun dn wr => Went n w1 pc bw pm rows N dn wr)
    case first =>
      go_wp2_with fail
      go_loopw [12, 14, 15] (fun dn sm i wr => ∃ k : Nat, k ≤ np ∧ k ≤ 300 ∧ i = .int .i64 k ∧ Run n ga w1 pc bw pm rows N dn sm wr) (fun _ _ i _ => 300 - (intOf i).toNat)
      case atStart => exact ⟨0, by omega, by omega, rfl, start rows N, s, rfl, start_fit _ _, by rw [(start_zero rows N).1]; rfl, by rw [(start_zero rows N).2]; rfl, by rw [(start_zero rows N).2]; exact hM0, hKp0, by simpa [List.range, List.range.loop, did_start] using hat0⟩
      case round =>
        obtain ⟨k, hk1, hk2, rfl, ts, s', hS, hF, rfl, rfl, hMr, hKr, hat⟩ := hrel
        by_cases h1 : k < np
        · by_cases h2 : k < 300
          · have h2d : decide ((k : Int) < 300) = true := decide_eq_true (by omega)
            obtain ⟨a, rfl, hab, hcp⟩ := hp k h1
            have hcw : wr.cell? (a.add (k * 2)) = some (.int .i64 (T k)) := (hKr.cell (by rw [add_block]; exact hab)).trans hcp
            obtain ⟨t, ht6, ht⟩ : ∃ t : Nat, t < 6 ∧ wrap64 ((IntKind.u64.wrap (T k)).tmod 6) = t := by
              have := wrapU (T k)
              refine ⟨((IntKind.u64.wrap (T k)).tmod 6).toNat, ?_, ?_⟩
              · rw [Int.tmod_eq_emod_of_nonneg this.1]; omega
              · rw [Int.tmod_eq_emod_of_nonneg this.1, wrap_id (by omega) (by omega)]; omega
            go_upto_region 24 with fail
            rw [ht]
            obtain ⟨P, hP⟩ : ∃ P, P = wr.heap.size := ⟨_, rfl⟩
            obtain ⟨W1, hW1⟩ : ∃ W1, wr.alloc (Obj.cells #[Value.int IntKind.i64 t, Value.int IntKind.i64 0] 38) = W1 := ⟨_, rfl⟩
            have hc1' : Ch [] wr W1 := by rw [← hW1]; exact (Ch.refl _ _).alloc _
            have hbx : W1.heap[P]? = some (.cells #[Value.int IntKind.i64 t, Value.int IntKind.i64 0] 38) := by rw [← hW1]; exact al_new hP _
            have hM1 := (hMr.more hc1').less (fr' := fun z => (z < n ∨ z = ga) ∨ z = P) (fun z hz => hz.imp id (fun e => by rw [e]; exact ⟨by omega, lt_of_heap hbx⟩))
            rw [hW1, ← hP]
            have b0 : W1.cell? ⟨P, 0, none⟩ = some (.int .i64 t) := cell_of hbx rfl
            have b1 : W1.cell? ⟨P, 1, none⟩ = some (.int .i64 0) := cell_of hbx rfl
            have HPs := hidh hP
            clear hP hW1
            cases hlv : live ts t with
            | true =>
              obtain ⟨th, hth, hlt⟩ := live_yes hlv
              have hpk := hM1.pick_yes hth (List.getElem?_eq_getElem hlt)
              go_upto_region 25 with (first | (go_at_call 14; refine hpk.mono ?_; clear hpk; rintro e w2 ⟨rfl, hM2, hk2⟩) | fail)
              have htl := (List.getElem?_eq_some_iff.1 hth).1
              have htn : t < nl := by rw [hS.len] at htl; omega
              obtain ⟨a1, rfl, hab1, hcr⟩ := hl.row t htn
              have hds := hS.ds hth
              have hz : (rows t)[th.vs.length]? = some th.ds[th.vs.length] := by
                have e := List.getElem?_eq_getElem hlt
                have hlen : th.vs.length < 10 := by have := hlt; rw [hds, List.length_take] at this; omega
                rw [← e, hds, List.getElem?_take, if_pos hlen]
              revert hM2 hz
              have hdd : th.ds[th.vs.length]? = some th.ds[th.vs.length] := List.getElem?_eq_getElem hlt
              revert hdd
              generalize th.ds[th.vs.length] = d
              intro hdd hM2 hz
              obtain ⟨z0, z1, a2, hA2, hab2, hcz⟩ := hl.cell t htn _ d hz
              have hK2 : Kp (fun z => z < n) w1 w2 := (hKr.trans (Kp.ofCh hc1' (fun z hz => ⟨hMr.fr_lt (.inl hz), by simp⟩))).trans (hk2.less (fun z hz => .inl (.inl hz)))
              have e1 : w2.cell? (a1.add t) = some (.slice (A t) (rows t).length (C t)) := (hK2.cell (by rw [add_block]; exact hab1)).trans hcr
              rw [hA2] at e1
              have e2 : w2.cell? (a2.add th.vs.length) = some (.int .u8 d) := (hK2.cell (by rw [add_block]; exact hab2)).trans hcz
              have ha2 : w2.heap[ga]? = _ := (hk2.block ga (.inl (.inr rfl))).trans (hc1'.heap hat (by simp))
              have e3 : w2.cell? ⟨ga, t, none⟩ = some (.int .i64 th.vs.length) := by rw [← did_of hth]; exact cell_of ha2 (did_cell ts ht6)
              have e4 : w2.frozen? ⟨ga, t, none⟩ = false := fz_of ha2
              have hbx2 : w2.heap[P]? = _ := (hk2.block P (.inr rfl)).trans hbx
              have e5 : w2.cell? ⟨P, 0, none⟩ = some (.int .i64 t) := cell_of hbx2 rfl
              have hPg : P ≠ ga := by
                have h1 := lt_of_heap hat
                have h2 := HPs.out
                omega
              have hdw : IntKind.u64.wrap d = d := by rw [IntKind.wrap_u64]; omega
              have hlr : th.vs.length < (rows t).length := (List.getElem?_eq_some_iff.1 hz).1
              have HS := hidh hS
              have HK := hidh hK2
              have HA := hidh ha2
              have HD := hidh hdd
              have HT := hidh hth
              clear hK2 ha2 hbx2 hdd hth hat hbx hcr hcz hz b0 b1 hS hds
              have hl60 : th.vs.length ≤ 10 := by have := congrArg List.length (HS.out.ds HT.out); rw [List.length_take] at this; omega
              have hb := cnt_bound HS.out hF hN6
              go_quiet (fail)
              go_upto_region 28 with fail
              obtain ⟨W3, hW3⟩ : ∃ W3, (w2.drewN nq).setCell ⟨ga, t, none⟩ (.int .i64 ((th.vs.length : Int) + 1)) = W3 := ⟨_, rfl⟩
              rw [hW3]
              have hat3 := st_same (w := w2.drewN nq) (i := t) HA.out (.int .i64 ((th.vs.length : Int) + 1))
              rw [hW3] at hat3
              rw [did_set (wrap64 (IntKind.u64.wrap (dsum ts % 18446744073709551616 + d))) HT.out] at hat3
              have hch3 : Ch [ga] w2 W3 := by rw [← hW3]; exact ((Ch.refl [ga] w2).drewN nq).setCell (p := ⟨ga, t, none⟩) (by simp) _
              have hM3 := (hM2.kept hch3 (by simp)).less (fr' := fun z => z < n ∨ z = ga) (fun z hz => .inl hz)
              have hK3 := HK.out.trans (Kp.ofCh hch3 (fun z hz => ⟨hM2.fr_lt (.inl (.inl hz)), by simp; omega⟩))
              have hS3 := same_step (wrap64 (IntKind.u64.wrap (dsum ts % 18446744073709551616 + d))) HS.out HT.out
              have hF3 := fit_step (t := t) (wrap64 (IntKind.u64.wrap (dsum ts % 18446744073709551616 + d))) hF HD.out
              have es := dsum_step (wrap64 (IntKind.u64.wrap (dsum ts % 18446744073709551616 + d))) HT.out HD.out
              have ec : ((cnt ts : Nat) : Int) + 1 = (cnt (stepped ts t th (wrap64 (IntKind.u64.wrap (dsum ts % 18446744073709551616 + d)))) : Nat) := by rw [cnt_step (wrap64 (IntKind.u64.wrap (dsum ts % 18446744073709551616 + d))) HT.out]; push_cast; rfl
              rw [ec]
              clear ec
              revert hM3 hS3 hF3 es hat3
              generalize stepped ts t th (wrap64 (IntKind.u64.wrap (dsum ts % 18446744073709551616 + d))) = ts3
              rw [u64_add]
              intro hat3 hM3 hS3 hF3 es
              rw [← es] at hM3 ⊢
              clear es
              have hld := hM3.load
              have hov := over_at hS3 hF3
              have hb3 := cnt_bound hS3 hF3 hN6
              by_cases hcn : cnt ts3 = num (start rows N)
              · have := hN6
                have hq : (((cnt ts3 : Nat) : Int) == ((num (start rows N) : Nat) : Int)) = true := by rw [hcn]; exact beq_self_eq_true _
                have hov' : ∀ W4 s4, MInv (fun z => z < n ∨ z = ga) W4 pc bw pm (dsum ts3 % 18446744073709551616) s4 ts3 → Calls Try.prog 16 #[.pointer (some ⟨pm, 0, none⟩)] W4 fun e w' => e = .returned (.bool true) ∧ Ch [] W4 w' := fun W4 s4 h => h.over' (hov.trans (decide_eq_true hcn))
                have HCN := hidh hcn
                clear hcn hov
                go_wp2_with (first | (go_at_call 15; refine hld.mono ?_; clear hld; rintro e w4 ⟨rfl, hM4, hk4, _⟩; have hov4 := hov' _ _ hM4; clear hov') | (go_at_call 16; refine hov4.mono ?_; clear hov4; rintro e w5 ⟨rfl, hch5⟩) | fail)
                go_roundw
                case rel => exact ⟨k + 1, by omega, by omega, by go_num, ts3, _, hS3, hF3, rfl, rfl, hM4.ch0 hch5, hK3.trans ((hk4.less (fun z hz => .inl hz)).trans (Kp.ofCh hch5 (fun z hz => ⟨hM4.fr_lt (.inl hz), by simp⟩))), hch5.heap ((hk4.block ga (.inr rfl)).trans hat3) (by simp)⟩
                case measure => simp [intOf]; omega
              · have := hN6
                have hq : (((cnt ts3 : Nat) : Int) == ((num (start rows N) : Nat) : Int)) = false := by rw [beq_eq_false_iff_ne]; omega
                have hov' : ∀ W4 s4, MInv (fun z => z < n ∨ z = ga) W4 pc bw pm (dsum ts3 % 18446744073709551616) s4 ts3 → Calls Try.prog 16 #[.pointer (some ⟨pm, 0, none⟩)] W4 fun e w' => e = .returned (.bool false) ∧ Ch [] W4 w' := fun W4 s4 h => h.over' (hov.trans (decide_eq_false hcn))
                have HCN := hidh hcn
                clear hcn hov
                go_wp2_with (first | (go_at_call 15; refine hld.mono ?_; clear hld; rintro e w4 ⟨rfl, hM4, hk4, _⟩; have hov4 := hov' _ _ hM4; clear hov') | (go_at_call 16; refine hov4.mono ?_; clear hov4; rintro e w5 ⟨rfl, hch5⟩) | fail)
                go_roundw
                case rel => exact ⟨k + 1, by omega, by omega, by go_num, ts3, _, hS3, hF3, rfl, rfl, hM4.ch0 hch5, hK3.trans ((hk4.less (fun z hz => .inl hz)).trans (Kp.ofCh hch5 (fun z hz => ⟨hM4.fr_lt (.inl hz), by simp⟩))), hch5.heap ((hk4.block ga (.inr rfl)).trans hat3) (by simp)⟩
                case measure => simp [intOf]; omega
            | false =>
              have hpk := hM1.pick_no t 0 hlv
              go_upto_region 28 with (first | (go_at_call 14; refine hpk.mono ?_; clear hpk; rintro e W3 ⟨rfl, hk2⟩) | fail)
              have hat3 := hk2.heap (hc1'.heap hat (by simp)) (by simp)
              have hM3 := (hM1.ch0 hk2).less (fr' := fun z => z < n ∨ z = ga) (fun z hz => .inl hz)
              have hK3 := hKr.trans (Kp.ofCh (hc1'.trans hk2) (fun z hz => ⟨hMr.fr_lt (.inl hz), by simp⟩))
              obtain ⟨ts3, rfl⟩ : ∃ ts3, ts3 = ts := ⟨_, rfl⟩
              have hS3 := hS
              have hF3 := hF
              have hld := hM3.load
              have hov := over_at hS3 hF3
              have hb3 := cnt_bound hS3 hF3 hN6
              by_cases hcn : cnt ts3 = num (start rows N)
              · have := hN6
                have hq : (((cnt ts3 : Nat) : Int) == ((num (start rows N) : Nat) : Int)) = true := by rw [hcn]; exact beq_self_eq_true _
                have hov' : ∀ W4 s4, MInv (fun z => z < n ∨ z = ga) W4 pc bw pm (dsum ts3 % 18446744073709551616) s4 ts3 → Calls Try.prog 16 #[.pointer (some ⟨pm, 0, none⟩)] W4 fun e w' => e = .returned (.bool true) ∧ Ch [] W4 w' := fun W4 s4 h => h.over' (hov.trans (decide_eq_true hcn))
                have HCN := hidh hcn
                clear hcn hov
                go_wp2_with (first | (go_at_call 15; refine hld.mono ?_; clear hld; rintro e w4 ⟨rfl, hM4, hk4, _⟩; have hov4 := hov' _ _ hM4; clear hov') | (go_at_call 16; refine hov4.mono ?_; clear hov4; rintro e w5 ⟨rfl, hch5⟩) | fail)
                go_roundw
                case rel => exact ⟨k + 1, by omega, by omega, by go_num, ts3, _, hS3, hF3, rfl, rfl, hM4.ch0 hch5, hK3.trans ((hk4.less (fun z hz => .inl hz)).trans (Kp.ofCh hch5 (fun z hz => ⟨hM4.fr_lt (.inl hz), by simp⟩))), hch5.heap ((hk4.block ga (.inr rfl)).trans hat3) (by simp)⟩
                case measure => simp [intOf]; omega
              · have := hN6
                have hq : (((cnt ts3 : Nat) : Int) == ((num (start rows N) : Nat) : Int)) = false := by rw [beq_eq_false_iff_ne]; omega
                have hov' : ∀ W4 s4, MInv (fun z => z < n ∨ z = ga) W4 pc bw pm (dsum ts3 % 18446744073709551616) s4 ts3 → Calls Try.prog 16 #[.pointer (some ⟨pm, 0, none⟩)] W4 fun e w' => e = .returned (.bool false) ∧ Ch [] W4 w' := fun W4 s4 h => h.over' (hov.trans (decide_eq_false hcn))
                have HCN := hidh hcn
                clear hcn hov
                go_wp2_with (first | (go_at_call 15; refine hld.mono ?_; clear hld; rintro e w4 ⟨rfl, hM4, hk4, _⟩; have hov4 := hov' _ _ hM4; clear hov') | (go_at_call 16; refine hov4.mono ?_; clear hov4; rintro e w5 ⟨rfl, hch5⟩) | fail)
                go_roundw
                case rel => exact ⟨k + 1, by omega, by omega, by go_num, ts3, _, hS3, hF3, rfl, rfl, hM4.ch0 hch5, hK3.trans ((hk4.less (fun z hz => .inl hz)).trans (Kp.ofCh hch5 (fun z hz => ⟨hM4.fr_lt (.inl hz), by simp⟩))), hch5.heap ((hk4.block ga (.inr rfl)).trans hat3) (by simp)⟩
                case measure => simp [intOf]; omega
          · obtain rfl : k = 300 := by omega
            go_wp2_with fail
            go_meet
            exact ⟨ts, s', hS, hF, rfl, hMr.less (fun z hz => .inl hz), hKr⟩
        · obtain rfl : k = np := by omega
          go_wp2_with fail
          go_meet
          exact ⟨ts, s', hS, hF, rfl, hMr.less (fun z hz => .inl hz), hKr⟩
    case rest =>
      clear hM0 hat0 hKp0
      go_wp2_with fail
      go_loopw [12] (fun dn wr => Went n w1 pc bw pm rows N dn wr) (fun dn _ => num (start rows N) - (intOf dn).toNat)
      case atStart => exact hcut
      case round =>
        obtain ⟨ts, s', hS, hF, rfl, hM, hK⟩ := hrel
        have hb := cnt_bound hS hF hN6
        have hnum := (num_same ts (start rows N) hS).1
        have hle := cnt_le ts hF
        by_cases hsel : sel (live ts) ts.length = []
        · have hcn := (sel_nil hF).1 (by rw [hsel]; rfl)
          have hdt := (cnt_of_all ts (all_of_cnt ts hF hcn)).2
          rw [hnum] at hcn
          rw [(num_same ts (start rows N) hS).2] at hdt
          have hq : (((cnt ts : Nat) : Int) == ((num (start rows N) : Nat) : Int)) = true := by rw [hcn]; exact beq_self_eq_true _
          have hab := hM.able
          rw [hsel] at hab
          have HCN := hidh hcn
          have HNUM := hidh hnum
          have HSEL := hidh hsel
          clear hcn hnum hsel
          rw [hdt] at hM
          have HDT := hidh hdt
          clear hdt
          go_wp2_with (first | (go_at_call 17; refine hab.mono ?_; clear hab; rintro e w2 ⟨v, rfl, hr2, hnil2, hk2⟩; obtain rfl := hnil2.2 rfl; have hov := (hM.ch0 hk2).over' (b := true) (by rw [HSEL.out]; rfl)) | (go_at_call 16; refine hov.mono ?_; clear hov; rintro e w3 ⟨rfl, hk3⟩; have hld := (hM.ch0 (hk2.trans hk3)).load) | (go_at_call 15; refine hld.mono ?_; clear hld; rintro e w4 ⟨rfl, hM4, hk4, _⟩) | fail)
          go_ret
          have hc4 := (((hK.trans (Kp.ofCh hk2 (fun z hz => ⟨hM.fr_lt hz, by simp⟩))).trans (Kp.ofCh hk3 (fun z hz => ⟨Nat.lt_of_lt_of_le (hM.fr_lt hz) hk2.size, by simp⟩))).trans hk4)
          exact ⟨rfl, Kp.past hc1 hc4 (by have := hn.out; have := hc1.size; omega)⟩
        · obtain ⟨t, rest, hcons⟩ : ∃ t rest, sel (live ts) ts.length = t :: rest := List.exists_cons_of_ne_nil hsel
          have hmem : t ∈ sel (live ts) ts.length := by rw [hcons]; exact List.mem_cons_self ..
          simp only [sel, List.mem_filter, List.mem_range] at hmem
          obtain ⟨th, hth, hlt⟩ := live_yes hmem.2
          have hlen : (sel (live ts) ts.length).length = rest.length + 1 := by rw [hcons]; rfl
          have hls : cnt ts < num ts := by
            rcases Nat.lt_or_ge (cnt ts) (num ts) with h | h
            · exact h
            · have e := (sel_nil hF).2 (by omega)
              rw [List.isEmpty_iff] at e
              exact absurd e hsel
          rw [hnum] at hls
          have hdd : th.ds[th.vs.length]? = some th.ds[th.vs.length] := List.getElem?_eq_getElem hlt
          revert hdd
          generalize th.ds[th.vs.length] = d
          intro hdd
          have hab := hM.able
          have hab2 := fun W h => (MInv.ch0 hM h (w' := W)).able
          have hpk := fun W h => (MInv.ch0 hM h (w' := W)).pick_yes hth hdd
          rw [hcons] at hab hab2
          have HNUM := hidh hnum
          have HTH := hidh hth
          have HDD := hidh hdd
          have HAB2 := hidh hab2
          have HPK := hidh hpk
          have f1 : True := trivial
          clear hsel hcons hmem hlen hnum hth hdd hab2 hpk
          go_wp2_with (first | (go_at_call 17; clear f1; refine hab.mono ?_; clear hab; rintro e w2 ⟨v, rfl, hr2, _, hk2⟩; obtain ⟨g2, c2, rfl⟩ := row_some hr2 (by simp); have hab3 := HAB2.out w2 hk2) | (go_at_call 17; refine hab3.mono ?_; clear hab3; rintro e w3 ⟨v, rfl, hr3, _, hk3⟩; obtain ⟨g3, c3, rfl⟩ := row_some hr3 (by simp); have he3 := row_cell hr3 (j := 0) rfl; have hpk3 := HPK.out w3 (hk2.trans hk3)) | (go_at_call 14; refine hpk3.mono ?_; clear hpk3; rintro e w4 ⟨rfl, hM4, hk4⟩) | fail)
          go_roundw
          case rel =>
            exact ⟨_, _, same_step (wrap64 (IntKind.u64.wrap (dsum ts % 18446744073709551616 + d))) hS HTH.out, fit_step (t := t) (wrap64 (IntKind.u64.wrap (dsum ts % 18446744073709551616 + d))) hF HDD.out, by rw [cnt_step (wrap64 (IntKind.u64.wrap (dsum ts % 18446744073709551616 + d))) HTH.out]; push_cast; rfl, hM4.be (by rw [dsum_step (wrap64 (IntKind.u64.wrap (dsum ts % 18446744073709551616 + d))) HTH.out HDD.out, u64_add]) rfl, ((hK.trans (Kp.ofCh hk2 (fun z hz => ⟨hM.fr_lt hz, by simp⟩))).trans (Kp.ofCh hk3 (fun z hz => ⟨Nat.lt_of_lt_of_le (hM.fr_lt hz) hk2.size, by simp⟩))).trans hk4⟩
          case measure => simp [intOf]; omega
end Go.Proofs.Ytejedbknpjffkaa
