/- Values, and the chapter's examples; conditions: closed. -/
import Derived.Test.YtejedbknpjffkaaL
namespace Go.Proofs.Ytejedbknpjffkaa
open Go.RowKit

def CloneInts (w : World) (n : Nat) (xs : List Value) (e : Ending) (w' : World) : Prop :=
  ∃ g cap, e = .returned (.slice (some ⟨g, 0, none⟩) n cap) ∧ w'.ownsRow w.heap.size 3 1 (.slice (some ⟨g, 0, none⟩) n cap) n xs ∧ Ch [] w w'

set_option maxHeartbeats 1000000 in
theorem clone_ints (w : World) (br n c : Nat) (xs : List Value) (hx : ∀ j u, xs[j]? = some u → w.cell? ⟨br, j, none⟩ = some u) (hl : xs.length = n) (h1 : 0 < n) (h2 : n ≤ 1000) (ho : ∀ u ∈ xs, u.oneCell' = true) (hb : br < w.heap.size) :
    Calls Try.prog 83 #[.slice (some ⟨br, 0, none⟩) n c] w (CloneInts w n xs) := by
  have qT : ∀ (w : World) (a : Option Addr) (n c n' c' : Nat), (binOp .eql 35 (.slice a n c) (.slice none n' c')).run Try.prog w = .ok (.bool a.isNone) w := fun w a n c n' c' => Lib.run_eql_slice_nil w _ _ a n c n' c' Try.underlying35
  obtain ⟨i0, hi, hz0, hz1, hz2⟩ := info_parts info3
  have hx' : ∀ j u, xs[j]? = some u → (w.alloc (.cells #[] 3)).cell? ((⟨br, 0, none⟩ : Addr).add j) = some u := by
    intro j u hu
    have e : (⟨br, 0, none⟩ : Addr).add j = ⟨br, j, none⟩ := by unfold Addr.add; split <;> simp_all
    rw [e, World.cell?_alloc_past _ _ _ hb]; exact hx j u hu
  have hown0 : (w.alloc (.cells #[] 3)).ownsRow w.heap.size 3 1 (.slice (some ⟨w.heap.size, 0, none⟩) 0 0) 0 [] := World.ownsRow_made w #[] 0 (Nat.le_refl _) (by unfold maxLen; omega) (by simp)
  have HL := hidh hl
  clear hl hx
  go_enter Try.func83, Try.ntmps83
  go_wp2_with (refine wpList_append_lies _ rfl _ _ 35 rfl w.heap.size 3 i0 (.int .i64 0) 1 8 Try.underlying35 hi hz0 hz1 hz2 rfl (by decide) (.slice (some ⟨w.heap.size, 0, none⟩) 0 0) 0 [] rfl hown0 ⟨br, 0, none⟩ n c xs rfl (by rw [HL.out]; omega) hx' ho h1 (by unfold maxLen; omega) (by omega) (by simp) _ rfl ?_; intro g cap w1 hown1 hgrow hat hlt; clear hx')
  go_ret
  simp only [Nat.zero_add, List.nil_append] at hown1
  exact ⟨g, cap, rfl, hown1, ((Ch.refl [] w).alloc _).trans' (ch_grown hgrow) (by intro i hi; simp [Value.ownBlock] at hi; omega)⟩

section
variable {fr : Nat → Prop} {w : World} {κ : Nat → Tag} {pc bw pm : Nat} {x st : Int} {ts : List Th} {bs : List Blk} {tv : Value}

theorem MInv.values (h : MInv fr w pc bw pm x st ts) {t n : Nat} {th : Th} (ht : ts[t]? = some th) (hn : th.vs.length = n) (h0 : 0 < n) :
    Calls Try.prog 39 #[.pointer (some ⟨pm, 0, none⟩), .int .i64 t] w (CloneInts w n (th.vs.map (Value.int .i64))) := by
  obtain ⟨κ, bs, tv, h⟩ := h
  have hth := h.threads
  obtain ⟨b, hb, hT⟩ := h.blk ht
  obtain ⟨g, c, e, hc⟩ := h.cellp hb
  have hM := h.mach
  rw [e] at hM
  have c0 := hM.c0
  have htl : t < ts.length := (List.getElem?_eq_some_iff.1 ht).1
  have hr := hT.vrow
  have h2 := hT.thr
  obtain ⟨g1, c1, e1⟩ := row_some hr (by omega)
  rw [e1] at h2 hr
  have c2 := h2.c2
  have hx : ∀ j u, (th.vs.map (Value.int .i64))[j]? = some u → w.cell? ⟨g1, j, none⟩ = some u := fun j u hu => row_cell hr hu
  have hcl := clone_ints w g1 n c1 (th.vs.map (Value.int .i64)) hx (by simpa using hn) h0 (by have := hT.few; have := hT.le; omega) (by intro u hu; obtain ⟨z, _, rfl⟩ := List.mem_map.1 hu; rfl) (hr.lt g1 rfl).2
  rw [hn] at c2
  have hb0 : decide ((t : Int) < 0) = false := by simp
  have HC := hidh hcl
  have HT := hidh hth
  clear hcl hth hx hr hT h2 hn
  go_enter Try.func39, Try.ntmps39
  go_wp2_with (first | (go_at_call 82; refine HT.out.mono ?_; rintro e w' ⟨rfl, rfl⟩) | (go_at_call 83; refine HC.out.mono ?_; rintro e w' ⟨g2, cap2, rfl, hr2, hch2⟩))
  go_ret
  exact ⟨g2, cap2, rfl, hr2, hch2⟩

/-- A pick of a kind that is no step does nothing. -/
theorem pick_kind (t p q : Nat) (k u : Int) (f : Nat) (cap : Array Value) (pp : Nat) (fv vv bv : Value) (hth : ∀ W, Ch [] w W → Calls Try.prog 48 #[.pointer (some ⟨pm, 0, none⟩), .int .i64 t] W fun e w'' => e = .returned (.pointer (some ⟨p, 0, none⟩)) ∧ W = w'')
    (hT : ThreadAt w p (some q) fv vv) (hq : TaskAt w q (some pp) u bv) (hp : PointAt w pp (.func (.func f) #[] cap) none 0 false) (hk : (k == 0) = false) :
    Calls Try.prog 14 #[.pointer (some ⟨pm, 0, none⟩), .agg #[.int .i64 t, .int .i64 k]] w fun e w' => e = .returned (.bool false) ∧ Ch [] w w' := by
  have hch : Ch [] w (w.alloc (.cells #[.int .i64 t, .int .i64 k] 38)) := (Ch.refl [] w).alloc _
  have hT1 := (hT.ch hch (by simp)).c0
  rw [ptrTo_some] at hT1
  have hq' : ∀ w', Ch [] w w' → Calls Try.prog 35 #[.pointer (some ⟨q, 0, none⟩), .int .i64 k] w' fun e w'' => e = .returned (.bool false) ∧ ∃ n, w'' = w'.drewN n := fun w' k' => (step_op_no w' q pp u k bv f cap none 0 false (hq.ch k' (by simp)) (hp.ch k' (by simp)) hk).mono (by rintro e w2 ⟨rfl, rfl⟩; exact ⟨rfl, 0, rfl⟩)
  clear hT hq hp
  go_enter Try.func14, Try.ntmps14
  go_wp2_with (go_at_call 48; refine (hth _ ((Ch.refl _ w).alloc _)).mono ?_; rintro e w' ⟨rfl, rfl⟩)
  go_quiet (first | (go_at_call 35; refine Calls.quiet_of (hq' _ ?_); exact ((Ch.refl _ w).alloc _).drewN _) | fail)
  go_wp2
  go_ret
  exact ⟨rfl, ((Ch.refl _ w).alloc _).drewN _⟩

theorem MInv.pick_kind (h : MInv fr w pc bw pm x st ts) {t : Nat} (hl : live ts t = true) (k : Int) (hk : (k == 0) = false) :
    Calls Try.prog 14 #[.pointer (some ⟨pm, 0, none⟩), .agg #[.int .i64 t, .int .i64 k]] w fun e w' => e = .returned (.bool false) ∧ Ch [] w w' := by
  obtain ⟨κ, bs, tv, h⟩ := h
  obtain ⟨th, ht, hlt⟩ := live_yes hl
  obtain ⟨b, hb, hT⟩ := h.blk ht
  have hlt' : th.vs.length < b.qs.length := by rw [hT.len]; exact hlt
  have hq := List.getElem?_eq_getElem hlt'
  have h1 := hT.thr
  rw [hq] at h1
  obtain ⟨pp, b0, b1, b2, hF, _⟩ := hT.fresh _ _ _ (Nat.le_refl _) hq (List.getElem?_eq_getElem hlt)
  exact Ytejedbknpjffkaa.pick_kind t b.p _ k 0 42 _ pp _ _ _ (fun W hW => (h.ch0 hW).thread_yes ht hb hlt) h1 hF.task hF.point hk
end

set_option maxHeartbeats 1000000 in
theorem ints_1 (w : World) (g1 g2 c1 c2 : Nat) (a : Int) (h1 : w.cell? ⟨g1, 0, none⟩ = some (.int .i64 a)) (h2 : w.cell? ⟨g2, 0, none⟩ = some (.int .i64 a)) :
    Calls Try.prog 38 #[.slice (some ⟨g1, 0, none⟩) 1 c1, .slice (some ⟨g2, 0, none⟩) 1 c2] w fun e w' => e = .returned (.bool true) ∧ Ch [] w w' := by
  go_enter Try.func38, Try.ntmps38
  go_wp2_with fail
  refine wp_loop_rounds 2 ?_
  rw [rounds_succ]
  go_wp2_with fail
  go_quiet (fail)
  go_wp2_with fail
  rw [rounds_succ]
  go_wp2_with fail
  go_ret
  exact ⟨rfl, (Ch.refl _ w).drewN _⟩

set_option maxHeartbeats 1000000 in
theorem ints_2 (w : World) (g1 g2 c1 c2 : Nat) (a b : Int) (h1 : w.cell? ⟨g1, 0, none⟩ = some (.int .i64 a)) (h2 : w.cell? ⟨g2, 0, none⟩ = some (.int .i64 a)) (h3 : w.cell? ⟨g1, 1, none⟩ = some (.int .i64 b)) (h4 : w.cell? ⟨g2, 1, none⟩ = some (.int .i64 b)) :
    Calls Try.prog 38 #[.slice (some ⟨g1, 0, none⟩) 2 c1, .slice (some ⟨g2, 0, none⟩) 2 c2] w fun e w' => e = .returned (.bool true) ∧ Ch [] w w' := by
  go_enter Try.func38, Try.ntmps38
  go_wp2_with fail
  refine wp_loop_rounds 3 ?_
  rw [rounds_succ]
  go_wp2_with fail
  go_quiet (fail)
  go_wp2_with fail
  rw [rounds_succ]
  go_wp2_with fail
  go_quiet (fail)
  go_wp2_with fail
  rw [rounds_succ]
  go_wp2_with fail
  go_ret
  exact ⟨rfl, (Ch.refl _ w).drewN _⟩

theorem Kp.after {w w2 w3 : World} (h : Ch [] w w2) (k : Kp (fun z => z < w.heap.size) w2 w3) : Ch [] w w3 := ⟨k.os.trans h.os, k.tape.trans h.tape, k.output.trans h.output, Nat.le_trans h.size k.size, fun z hz _ => (k.block z hz).trans (h.block z hz (by simp))⟩

/-- The chapter's machine, and its cell. -/
def TwoOut (w : World) (e : Ending) (w' : World) : Prop :=
  ∃ pc bw pm, e = .returned (.tuple #[.pointer (some ⟨pm, 0, none⟩), .pointer (some ⟨pc, 0, none⟩)]) ∧ MInv (fun z => z < w.heap.size) w' pc bw pm 0 0 [⟨[1, 2], []⟩, ⟨[10], []⟩] ∧ Ch [] w w'

theorem Kp.ch {n : Nat} {w w' : World} (h : Kp (fun z => z < n) w w') (hn : w.heap.size ≤ n) : Ch [] w w' := ⟨h.os, h.tape, h.output, h.size, fun z hz _ => h.block z (Nat.lt_of_lt_of_le hz hn)⟩

theorem two_start {w w1 w2 : World} (hC : CellsAt w1 (w.heap.size + 1) w.heap.size (List.replicate 1 0) 0) (hc1 : Ch [] w w1) (hw2 : w1.alloc (Obj.cells #[Value.slice none 0 0] 94) = w2) :
    MInv (fun z => z < w.heap.size) w2 (w.heap.size + 1) w.heap.size w1.heap.size 0 0 [] ∧ Ch [] w w2 := by
  have h12 : Ch [] w1 w2 := by rw [← hw2]; exact (Ch.refl _ _).alloc _
  have hM : MachAt w2 w1.heap.size (.slice none 0 0) := by rw [← hw2]; exact al_new rfl _
  refine ⟨MInv.start (hC.ch h12 (by simp) (by simp)) hM (fun z hz => ?_), hc1.trans h12⟩
  have h1 := hc1.size
  have h2 := h12.size
  omega

/-- Two tasks that add, made one behind the other. -/
theorem pend_two {A w1 w2 w3 : World} {pc : Nat} {a b : Int} {o : Obj} (h1 : FreshAdd w1 (A.heap.size + 4) pc 0 a (A.heap.size + 3) A.heap.size (A.heap.size + 1) (A.heap.size + 2)) (c1 : Ch [] A w1)
    (h2 : FreshAdd w2 (A.heap.size + 5 + 4) pc 0 b (A.heap.size + 5 + 3) (A.heap.size + 5) (A.heap.size + 5 + 1) (A.heap.size + 5 + 2)) (c2 : Ch [] w1 w2) (hw : w2.alloc o = w3) :
    Ch [] A w3 ∧ (∀ (j q : Nat) (d : Int), [A.heap.size + 4, A.heap.size + 5 + 4][j]? = some q → [a, b][j]? = some d → ∃ pp b0 b1 b2, FreshAdd w3 q pc 0 d pp b0 b1 b2 ∧ A.heap.size ≤ pp ∧ A.heap.size ≤ b0 ∧ A.heap.size ≤ b1 ∧ A.heap.size ≤ b2) ∧ (∀ q ∈ [A.heap.size + 4, A.heap.size + 5 + 4], A.heap.size ≤ q) ∧ [A.heap.size + 4, A.heap.size + 5 + 4].Nodup := by
  have c3 : Ch [] w2 w3 := by rw [← hw]; exact (Ch.refl _ _).alloc _
  refine ⟨(c1.trans c2).trans c3, ?_, ?_, ?_⟩
  · intro j q d hq hd
    match j with
    | 0 => cases hq; cases hd; exact ⟨_, _, _, _, (h1.ch (c2.trans c3) (by simp)), by omega, by omega, by omega, by omega⟩
    | 1 => cases hq; cases hd; exact ⟨_, _, _, _, (h2.ch c3 (by simp)), by omega, by omega, by omega, by omega⟩
    | j + 2 => cases hq
  · intro q hq
    simp only [List.mem_cons, List.not_mem_nil, or_false] at hq
    rcases hq with rfl | rfl <;> omega
  · simp

theorem pend_one {A w1 w3 : World} {pc : Nat} {a : Int} {o : Obj} (h1 : FreshAdd w1 (A.heap.size + 4) pc 0 a (A.heap.size + 3) A.heap.size (A.heap.size + 1) (A.heap.size + 2)) (c1 : Ch [] A w1) (hw : w1.alloc o = w3) :
    Ch [] A w3 ∧ (∀ (j q : Nat) (d : Int), [A.heap.size + 4][j]? = some q → [a][j]? = some d → ∃ pp b0 b1 b2, FreshAdd w3 q pc 0 d pp b0 b1 b2 ∧ A.heap.size ≤ pp ∧ A.heap.size ≤ b0 ∧ A.heap.size ≤ b1 ∧ A.heap.size ≤ b2) ∧ (∀ q ∈ [A.heap.size + 4], A.heap.size ≤ q) := by
  have c3 : Ch [] w1 w3 := by rw [← hw]; exact (Ch.refl _ _).alloc _
  refine ⟨c1.trans c3, ?_, ?_⟩
  · intro j q d hq hd
    match j with
    | 0 => cases hq; cases hd; exact ⟨_, _, _, _, (h1.ch c3 (by simp)), by omega, by omega, by omega, by omega⟩
    | j + 1 => cases hq
  · intro q hq
    simp only [List.mem_cons, List.not_mem_nil, or_false] at hq
    omega

set_option maxRecDepth 100000 in
set_option maxHeartbeats 2000000 in
theorem two_any (w : World) : Calls Try.prog 37 #[] w (TwoOut w) := by
  have f1 : True := trivial
  have f2 : True := trivial
  have f3 : True := trivial
  have hN := hidh (cells_new 1 (by omega) w)
  go_enter Try.func37, Try.ntmps37
  go_wp2_with (first | (go_at_call 10; refine hN.out.mono ?_; rintro e w1 ⟨rfl, hC, hc1⟩) | (go_at_call 11; refine (mach_new _).mono ?_; rintro e w2 ⟨rfl, hw2⟩; obtain ⟨hI, hcw⟩ := two_start hC hc1 hw2; clear hC hc1 hw2 hN) | (go_at_call 12; clear f1; refine (task_add _ 0 1 _).mono ?_; rintro e w3 ⟨rfl, hF1, hc3, hs3⟩) | (go_at_call 12; clear f2; refine (task_add _ 0 2 _).mono ?_; rintro e w4 ⟨rfl, hF2, hc4, hs4⟩; rw [hs3] at hF2) | fail)
  obtain ⟨w5, hw5⟩ : ∃ w5, w4.alloc (Obj.cells #[Value.pointer (some { block := w2.heap.size + 4, off := 0 }), Value.pointer (some { block := w2.heap.size + 5 + 4, off := 0 })] 32) = w5 := ⟨_, rfl⟩
  have hbr : w5.heap[w2.heap.size + 5 + 5]? = some (.cells #[Value.pointer (some { block := w2.heap.size + 4, off := 0 }), Value.pointer (some { block := w2.heap.size + 5 + 4, off := 0 })] 32) := by rw [← hw5]; exact al_new (by rw [hs4, hs3]) _
  obtain ⟨k1, k2, k3, k4⟩ := pend_two hF1 hc3 hF2 hc4 hw5
  have P := hI.add_some k1 (by simp) (qs := [w2.heap.size + 4, w2.heap.size + 5 + 4]) (ds := [1, 2]) rfl (by simp) (by simp) k4 k2 k3 (w2.heap.size + 5 + 5) 2 2 rfl (by
    intro j q hj
    match j with
    | 0 => cases hj; exact cell_of hbr rfl
    | 1 => cases hj; exact cell_of hbr rfl
    | j + 2 => cases hj) (lt_of_heap hbr)
  rw [hw5]
  refine P.mono ?_
  rintro e w6 ⟨rfl, hI6, hk6⟩
  clear P hF1 hF2 k2 k3 k4 hbr hw5 k1 hI hs3 hs4
  have hc6 : Ch [] w w6 := Kp.after hcw hk6
  clear hk6 hcw
  go_wp2_with (first | (go_at_call 12; clear f3; refine (task_add _ 0 10 _).mono ?_; rintro e w7 ⟨rfl, hF7, hc7, hs7⟩) | fail)
  obtain ⟨w8, hw8⟩ : ∃ w8, w7.alloc (Obj.cells #[Value.pointer (some { block := w6.heap.size + 4, off := 0 })] 32) = w8 := ⟨_, rfl⟩
  have hbr : w8.heap[w6.heap.size + 5]? = some (.cells #[Value.pointer (some { block := w6.heap.size + 4, off := 0 })] 32) := by rw [← hw8]; exact al_new (by rw [hs7]) _
  obtain ⟨k1, k2, k3⟩ := pend_one hF7 hc7 hw8
  have P := hI6.add_some k1 (by simp) (qs := [w6.heap.size + 4]) (ds := [10]) rfl (by simp) (by simp) (by simp) k2 k3 (w6.heap.size + 5) 1 1 rfl (by
    intro j q hj
    match j with
    | 0 => cases hj; exact cell_of hbr rfl
    | j + 1 => cases hj) (lt_of_heap hbr)
  rw [hw8]
  refine P.mono ?_
  rintro e w9 ⟨rfl, hI9, hk9⟩
  clear P hF7 k2 k3 hbr hw8 k1 hI6 hs7
  have hc9 : Ch [] w w9 := Kp.after hc6 hk9
  go_wp2
  refine bodyPost_ret (v := .tuple #[.pointer (some ⟨w1.heap.size, 0, none⟩), .pointer (some ⟨w.heap.size + 1, 0, none⟩)]) (by simp [results, Try.results37, go_sem]) rfl ⟨_, _, _, rfl, hI9, hc9⟩

end Go.Proofs.Ytejedbknpjffkaa
