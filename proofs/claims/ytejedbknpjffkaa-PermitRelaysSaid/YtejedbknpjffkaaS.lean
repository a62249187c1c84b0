/- Permits for one goroutine alone: New, Len, Has, Give, Take; conditions: the blocks of the permits and of their channels are known. -/
import Derived.Test.YtejedbknpjffkaaA
import Derived.Conc.LoneSelectN
import Derived.Conc.LoneSelect
import Derived.Lib.Hide
import Derived.Deep.CutRange
namespace Go.Proofs.Ytejedbknpjffkaa
open Go.RowKit Go.Conc

section
variable {P : Program} {Q : Goroutine → World → Prop} {b : Frame} {a : Act} {k : List Item} {cs : List Frame} {w : World}

theorem lt_seq {x y : Code} (h : LoneTo P Q (G (b.at a (.code x :: .code y :: k)) cs) w) : LoneTo P Q (G (b.at a (.code (.seq x y) :: k)) cs) w := LoneTo.step step_seq h

theorem lt_steps {g : Goroutine} (h : Steps P (solo (G (b.at a k) cs) w) (solo g w)) (h' : LoneTo P Q g w) : LoneTo P Q (G (b.at a k) cs) w := by
  obtain ⟨g', w', hs, hq⟩ := h'
  exact ⟨g', w', h.trans hs, hq⟩

/-- A piece of code that is left at its end. -/
theorem lt_wp {c : Code} (h : ∀ K : Act → World → Prop, (∀ a' w', LoneTo P Q (G (b.at a' k) cs) w' → K a' w') → c.wp P (Exit.then K (fun _ _ _ => False)) a w) : LoneTo P Q (G (b.at a (.code c :: k)) cs) w := by
  obtain ⟨e, a', w', hq, harr⟩ := h (fun a' w' => LoneTo P Q (G (b.at a' k) cs) w') (fun _ _ h => h) b k cs
  cases e with
  | normal =>
    obtain ⟨g', w'', hs, hq'⟩ := hq
    exact ⟨g', w'', Steps.trans harr hs, hq'⟩
  | _ => exact hq.elim

/-- A region whose first operation is carried out by the machine. -/
theorem lt_first {id : Nat} {ops : Array Oper} {w' : World} {o : Oper} {v : Value} {l2 : List Oper}
    (hl : ops.toList = o :: l2)
    (h : step P (lone (b.at a (.inRegion ops (0 :: List.range' 1 l2.length) :: k)) cs w) = .next (lone ((b.at a (.inRegion ops (0 :: List.range' 1 l2.length) :: k)).finish v) cs w'))
    (h' : ∀ K : Act → World → Prop, (∀ a' w', LoneTo P Q (G (b.at a' k) cs) w' → K a' w') → wpList P ops (Exit.then K (fun _ _ _ => False)) l2 (a.put o.dst v) w') : LoneTo P Q (G (b.at a (.code (.region id ops false) :: k)) cs) w := by
  have hs : ops.size = l2.length + 1 := by rw [← Array.length_toList, hl]; rfl
  have ho : ops[0]? = some o := by rw [← Array.getElem?_toList, hl]; rfl
  have hr : List.range ops.size = 0 :: List.range' 1 l2.length := by rw [hs, List.range_eq_range', List.range'_succ]
  have h2 := h' (fun a' w' => LoneTo P Q (G (b.at a' k) cs) w') (fun _ _ h => h)
  rw [← wpOps_eq_wpList l2 1 (fun j => by rw [← Array.getElem?_toList, hl, Nat.add_comm]; rfl)] at h2
  obtain ⟨e, a', w'', q, r⟩ := wp_ops _ _ _ h2 b k cs
  have hfin : (b.at a (.inRegion ops (0 :: List.range' 1 l2.length) :: k)).finish v = b.at (a.put o.dst v) (.inRegion ops (List.range' 1 l2.length) :: k) := by rw [Frame.finish_at, ho]; rfl
  have h1 : step P (lone (b.at a (.code (.region id ops false) :: k)) cs w) = .next (lone (b.at a (.inRegion ops (0 :: List.range' 1 l2.length) :: k)) cs w) := by rw [step_region, hr]
  rw [hfin] at h
  cases e with
  | normal =>
    obtain ⟨g', w3, hs3, hq'⟩ := q
    exact ⟨g', w3, Steps.head h1 (Steps.head h (Steps.trans r hs3)), hq'⟩
  | _ => exact q.elim

/-- The last piece of a function's body. -/
theorem lt_last {c : Code} {f : FuncId} {fn : Func} {R : Ending → World → Prop} (hf : P.funcs[f]? = some fn) (h : c.wp P (fun e a' w' => e = .ret ∧ a'.defers = [] ∧ ∃ v, (results fn a'.tmps).run P w' = .ok v w' ∧ R (.returned v) w') a w) :
    LoneTo P (fun g' w' => ∃ e fr, g' = G fr cs ∧ R e w' ∧ fr.fn = f ∧ fr.leaving P w' e) (G ((base f).at a [.code c]) cs) w := by
  obtain ⟨e, a', w', ⟨rfl, hd, v, hr, hR⟩, todo, hs⟩ := h (base f) [] cs
  exact ⟨_, w', hs, .returned v, _, rfl, hR, rfl, rfl, hd, rfl, fn, hf, hr⟩
end

/-- The channels of permits: which of them hold one. -/
structure PermAt (w : World) (pp bp : Nat) (cs : List Nat) (has : List Bool) : Prop where
  hp : w.heap[pp]? = some (.cells #[.slice (some ⟨bp, 0, none⟩) cs.length cs.length] 120)
  hb : w.heap[bp]? = some (.cells (cs.map fun c => Value.chan (some c)).toArray 121)
  len : has.length = cs.length
  nodup : cs.Nodup
  chan : ∀ (i c : Nat), cs[i]? = some c → ∃ s r, w.heap[c]? = some (.chan 1 (if has.getD i false then #[.agg #[]] else #[]) false s r false)

@[go_sem] theorem len118 (w : World) (a : Option Addr) (n c : Nat) : (Builtin.len_ #[118] 3 #[.slice a n c]).run Try.prog w = .ok (.int .i64 n) w := by kernel_rfl

theorem perm_len (w : World) (pp bp : Nat) (cs : List Nat) (has : List Bool) (h : PermAt w pp bp cs has) : Calls Try.prog 19 #[.pointer (some ⟨pp, 0, none⟩)] w fun e w' => e = .returned (.int .i64 cs.length) ∧ w = w' := by
  have c0 : w.cell? ⟨pp, 0, none⟩ = some (.slice (some ⟨bp, 0, none⟩) cs.length cs.length) := cell_of h.hp rfl
  go_enter Try.func19, Try.ntmps19
  go_wp2
  go_ret
  exact ⟨rfl, rfl⟩

theorem there_in (w : World) (pp bp : Nat) (cs : List Nat) (has : List Bool) (h : PermAt w pp bp cs has) (t : Nat) (ht : t < cs.length) : Calls Try.prog 58 #[.pointer (some ⟨pp, 0, none⟩), .int .i64 t] w fun e w' => e = .returned (.bool true) ∧ w = w' := by
  have hd : decide ((t : Int) < (cs.length : Int)) = true := decide_eq_true (by omega)
  go_enter Try.func58, Try.ntmps58
  go_wp2_with (go_at_call 19; refine (perm_len _ _ _ _ _ h).mono ?_; rintro e w' ⟨rfl, rfl⟩)
  go_ret
  exact ⟨rfl, rfl⟩

theorem there_out (w : World) (pp bp : Nat) (cs : List Nat) (has : List Bool) (h : PermAt w pp bp cs has) (t : Nat) (ht : ¬ t < cs.length) : Calls Try.prog 58 #[.pointer (some ⟨pp, 0, none⟩), .int .i64 t] w fun e w' => e = .returned (.bool false) ∧ w = w' := by
  have hd : decide ((t : Int) < (cs.length : Int)) = false := decide_eq_false (by omega)
  go_enter Try.func58, Try.ntmps58
  go_wp2_with (go_at_call 19; refine (perm_len _ _ _ _ _ h).mono ?_; rintro e w' ⟨rfl, rfl⟩)
  go_ret
  exact ⟨rfl, rfl⟩

theorem there_neg (w : World) (pp : Nat) (t : Int) (ht : t < 0) : Calls Try.prog 58 #[.pointer (some ⟨pp, 0, none⟩), .int .i64 t] w fun e w' => e = .returned (.bool false) ∧ w = w' := by
  have hd : decide (0 ≤ t) = false := decide_eq_false (by omega)
  go_enter Try.func58, Try.ntmps58
  go_wp2_with fail
  go_ret
  exact ⟨rfl, rfl⟩

/-- Nobody is there: nothing is given. -/
theorem give_no (w : World) (pp : Nat) (t : Int) (h : Calls Try.prog 58 #[.pointer (some ⟨pp, 0, none⟩), .int .i64 t] w fun e w' => e = .returned (.bool false) ∧ w = w') : Calls Try.prog 25 #[.pointer (some ⟨pp, 0, none⟩), .int .i64 t] w fun e w' => e = .returned (.bool false) ∧ w = w' := by
  have H := Lib.hid h
  clear h
  go_enter Try.func25, Try.ntmps25
  go_wp2_with (go_at_call 58; refine H.out.mono ?_; rintro e w' ⟨rfl, rfl⟩)
  go_ret
  exact ⟨rfl, rfl⟩

def buf1 (b : Bool) : Array Value := if b then #[.agg #[]] else #[]

theorem PermAt.set {w : World} {pp bp : Nat} {cs : List Nat} {has : List Bool} (h : PermAt w pp bp cs has) {t c : Nat} (ht : cs[t]? = some c) (b : Bool) (s r : Nat) :
    PermAt (w.setChan c 1 (buf1 b) false s r false) pp bp cs (has.set t b) ∧ Ch cs w (w.setChan c 1 (buf1 b) false s r false) := by
  obtain ⟨s0, r0, hc⟩ := h.chan t c ht
  have hlt := lt_of_heap hc
  have hne : ∀ k, k ≠ c → (w.setChan c 1 (buf1 b) false s r false).heap[k]? = w.heap[k]? := fun k hk => by
    simp only [World.setChan]
    rw [Array.getElem?_setIfInBounds_ne (by omega)]
  have hpc : pp ≠ c := by intro e; subst e; rw [h.hp] at hc; cases hc
  have hbc : bp ≠ c := by intro e; subst e; rw [h.hb] at hc; cases hc
  refine ⟨⟨(hne _ hpc).trans h.hp, (hne _ hbc).trans h.hb, by simpa using h.len, h.nodup, ?_⟩, rfl, rfl, rfl, by simp [World.setChan], fun k _ hm => hne k (fun e => hm (by rw [e]; exact List.mem_of_getElem? ht))⟩
  intro i c' hi
  by_cases e : i = t
  · subst e
    rw [ht] at hi
    obtain rfl : c = c' := Option.some.inj hi
    refine ⟨s, r, ?_⟩
    rw [heap_setChan _ _ _ _ _ _ _ _ hlt]
    have hl : i < has.length := by rw [h.len]; exact (List.getElem?_eq_some_iff.1 ht).1
    have : (has.set i b).getD i false = b := by simp [List.getD, hl]
    rw [this]; rfl
  · obtain ⟨s1, r1, hc1⟩ := h.chan i c' hi
    have hcc : c' ≠ c := by
      have hp := List.pairwise_iff_getElem.1 h.nodup
      obtain ⟨l1, v1⟩ := List.getElem?_eq_some_iff.1 hi
      obtain ⟨l2, v2⟩ := List.getElem?_eq_some_iff.1 ht
      intro e2
      rcases Nat.lt_or_gt_of_ne e with c | c
      · exact hp i t l1 l2 c (by rw [v1, v2, e2])
      · exact hp t i l2 l1 c (by rw [v1, v2, e2])
    refine ⟨s1, r1, ?_⟩
    rw [hne _ hcc, hc1]
    have : (has.set t b).getD i false = has.getD i false := by
      simp only [List.getD_eq_getElem?_getD]
      rw [List.getElem?_set_ne (fun e' => e e'.symm)]
    rw [this]

theorem set_same {has : List Bool} {t : Nat} {b : Bool} (h : has.getD t false = b) (ht : t < has.length) : has.set t b = has := by
  apply List.ext_getElem?
  intro i
  rw [List.getElem?_set]
  by_cases e : t = i
  · subst e
    rw [if_pos rfl, if_pos ht]
    simp only [List.getD_eq_getElem?_getD, List.getElem?_eq_getElem ht] at h ⊢
    rw [← h]; rfl
  · rw [if_neg e]

set_option maxRecDepth 100000 in
theorem give_in (w : World) (pp bp : Nat) (cs : List Nat) (has : List Bool) (h : PermAt w pp bp cs has) (t c : Nat) (ht : cs[t]? = some c) : Calls Try.prog 25 #[.pointer (some ⟨pp, 0, none⟩), .int .i64 t] w fun e w' => e = .returned (.bool true) ∧ PermAt w' pp bp cs (has.set t true) ∧ Ch cs w w' := by
  have htl := (List.getElem?_eq_some_iff.1 ht).1
  have c0 : w.cell? ⟨pp, 0, none⟩ = some (.slice (some ⟨bp, 0, none⟩) cs.length cs.length) := cell_of h.hp rfl
  have c1 : w.cell? ⟨bp, t, none⟩ = some (.chan (some c)) := cell_of h.hb (by simp [ht])
  have H := Lib.hid h
  clear h
  refine calls_of_loneTo (fun fs => ?_) (by simp)
  rw [enter_at _ Try.func25 rfl]
  refine lt_seq (lt_wp fun K hK => ?_)
  simp only [Try.ntmps25, List.size_toArray, List.length_cons, List.length_nil, Nat.reduceAdd, Nat.reduceSub, Array.replicate_succ, Array.replicate_zero, List.push_toArray, List.append_toArray, List.nil_append, List.cons_append]
  go_wp2
  refine lt_seq (lt_wp fun K hK => ?_)
  go_wp2_with (go_at_call 58; refine (there_in _ _ _ _ _ H.out t htl).mono ?_; rintro e w' ⟨rfl, rfl⟩)
  refine lt_seq (lt_seq (lt_wp fun K hK => ?_))
  go_wp2
  refine lt_seq ?_
  obtain ⟨s, r, hc⟩ := H.out.chan t c ht
  cases hh : has.getD t false with
  | false =>
    rw [hh] at hc
    simp only [Bool.false_eq_true, if_false] at hc
    refine lt_first (v := .tuple #[goInt 0, .bool false]) rfl (step_lone_select_send_room (c := c) (cap := 1) (buf := #[]) (s := s) (r := r) (tm := false) (stepG_comm (cases := #[scase c (.agg #[]) (.agg #[])]) (blocking := false) (shape := .select) (w' := w) rfl rfl (by decide) (by simp [go_sem, execOp, scase, Act.eval])) hc (by simp)) fun K hK => ?_
    go_wp2
    refine lt_wp fun K hK => ?_
    go_wp2
    refine lt_last Try.func25 ?_
    go_wp2
    exact ⟨_, results_tmp rfl _ _ _, rfl, H.out.set ht true (s + 1) r⟩
  | true =>
    rw [hh] at hc
    simp only [if_true] at hc
    refine lt_first (v := .tuple #[goInt (-1), .bool false]) rfl (step_lone_select_send_full (c := c) (cap := 1) (buf := #[.agg #[]]) (s := s) (r := r) (tm := false) (stepG_comm (cases := #[scase c (.agg #[]) (.agg #[])]) (blocking := false) (shape := .select) (w' := w) rfl rfl (by decide) (by simp [go_sem, execOp, scase, Act.eval])) hc (by simp)) fun K hK => ?_
    go_wp2
    refine lt_wp fun K hK => ?_
    go_wp2
    refine lt_last Try.func25 ?_
    go_wp2
    exact ⟨_, results_tmp rfl _ _ _, rfl, by rw [set_same hh (by rw [H.out.len]; exact htl)]; exact H.out, Ch.refl _ _⟩

set_option maxRecDepth 100000 in
theorem take_in (w : World) (pp bp : Nat) (cs : List Nat) (has : List Bool) (h : PermAt w pp bp cs has) (t c : Nat) (ht : cs[t]? = some c) (b : Bool) (hb : has.getD t false = b) : Calls Try.prog 27 #[.pointer (some ⟨pp, 0, none⟩), .int .i64 t] w fun e w' => e = .returned (.bool b) ∧ PermAt w' pp bp cs (has.set t false) ∧ Ch cs w w' := by
  have htl := (List.getElem?_eq_some_iff.1 ht).1
  have c0 : w.cell? ⟨pp, 0, none⟩ = some (.slice (some ⟨bp, 0, none⟩) cs.length cs.length) := cell_of h.hp rfl
  have c1 : w.cell? ⟨bp, t, none⟩ = some (.chan (some c)) := cell_of h.hb (by simp [ht])
  have H := Lib.hid h
  clear h
  refine calls_of_loneTo (fun fs => ?_) (by simp)
  rw [enter_at _ Try.func27 rfl]
  refine lt_seq (lt_wp fun K hK => ?_)
  simp only [Try.ntmps27, List.size_toArray, List.length_cons, List.length_nil, Nat.reduceAdd, Nat.reduceSub, Array.replicate_succ, Array.replicate_zero, List.push_toArray, List.append_toArray, List.nil_append, List.cons_append]
  go_wp2
  refine lt_seq (lt_wp fun K hK => ?_)
  go_wp2_with (go_at_call 58; refine (there_in _ _ _ _ _ H.out t htl).mono ?_; rintro e w' ⟨rfl, rfl⟩)
  refine lt_seq (lt_wp fun K hK => ?_)
  go_wp2
  refine lt_seq ?_
  obtain ⟨s, r, hc⟩ := H.out.chan t c ht
  cases b with
  | false =>
    rw [hb] at hc
    simp only [Bool.false_eq_true, if_false] at hc
    refine lt_first (v := .tuple #[goInt (-1), .bool false, .agg #[]]) rfl (step_lone_select_default (c := c) (cap := 1) (s := s) (r := r) (tm := false) (z := .agg #[]) (stepG_comm (cases := #[rcase c (.agg #[])]) (blocking := false) (shape := .select) (w' := w) rfl rfl (by decide) (by simp [go_sem, execOp, rcase, Act.eval])) hc) fun K hK => ?_
    go_wp2
    refine lt_last Try.func27 ?_
    go_wp2
    exact ⟨_, results_tmp rfl _ _ _, rfl, by rw [set_same hb (by rw [H.out.len]; exact htl)]; exact H.out, Ch.refl _ _⟩
  | true =>
    rw [hb] at hc
    simp only [if_true] at hc
    refine lt_first (v := .tuple #[goInt 0, .bool true, .agg #[]]) rfl (step_lone_select_recv_buf (c := c) (cap := 1) (buf := #[.agg #[]]) (s := s) (r := r) (tm := false) (z := .agg #[]) (stepG_comm (cases := #[rcase c (.agg #[])]) (blocking := false) (shape := .select) (w' := w) rfl rfl (by decide) (by simp [go_sem, execOp, rcase, Act.eval])) hc (by simp)) fun K hK => ?_
    go_wp2
    refine lt_last Try.func27 ?_
    go_wp2
    exact ⟨_, results_tmp rfl _ _ _, rfl, H.out.set ht false s (r + 1)⟩

theorem take_no (w : World) (pp : Nat) (t : Int) (h : Calls Try.prog 58 #[.pointer (some ⟨pp, 0, none⟩), .int .i64 t] w fun e w' => e = .returned (.bool false) ∧ w = w') : Calls Try.prog 27 #[.pointer (some ⟨pp, 0, none⟩), .int .i64 t] w fun e w' => e = .returned (.bool false) ∧ w = w' := by
  have H := Lib.hid h
  clear h
  go_enter Try.func27, Try.ntmps27
  go_wp2_with (go_at_call 58; refine H.out.mono ?_; rintro e w' ⟨rfl, rfl⟩)
  go_ret
  exact ⟨rfl, rfl⟩

theorem has_no (w : World) (pp : Nat) (t : Int) (h : Calls Try.prog 58 #[.pointer (some ⟨pp, 0, none⟩), .int .i64 t] w fun e w' => e = .returned (.bool false) ∧ w = w') : Calls Try.prog 23 #[.pointer (some ⟨pp, 0, none⟩), .int .i64 t] w fun e w' => e = .returned (.bool false) ∧ w = w' := by
  have H := Lib.hid h
  clear h
  go_enter Try.func23, Try.ntmps23
  go_wp2_with (go_at_call 58; refine H.out.mono ?_; rintro e w' ⟨rfl, rfl⟩)
  go_ret
  exact ⟨rfl, rfl⟩

theorem has_in (w : World) (pp bp : Nat) (cs : List Nat) (has : List Bool) (h : PermAt w pp bp cs has) (t c : Nat) (ht : cs[t]? = some c) (b : Bool) (hb : has.getD t false = b) : Calls Try.prog 23 #[.pointer (some ⟨pp, 0, none⟩), .int .i64 t] w fun e w' => e = .returned (.bool b) ∧ w = w' := by
  have htl := (List.getElem?_eq_some_iff.1 ht).1
  have c0 : w.cell? ⟨pp, 0, none⟩ = some (.slice (some ⟨bp, 0, none⟩) cs.length cs.length) := cell_of h.hp rfl
  have c1 : w.cell? ⟨bp, t, none⟩ = some (.chan (some c)) := cell_of h.hb (by simp [ht])
  obtain ⟨s, r, hc⟩ := h.chan t c ht
  rw [hb] at hc
  have hlen : (Builtin.len_ #[121] 3 #[.chan (some c)]).run Try.prog w = .ok (.int .i64 (if b then 1 else 0)) w := by
    rw [run_len_chan 121 3 Try.underlying121 hc]
    cases b <;> rfl
  have H := Lib.hid h
  clear h hc hb
  cases b with
  | false =>
    simp only [Bool.false_eq_true, if_false] at hlen
    go_enter Try.func23, Try.ntmps23
    go_wp2_with (go_at_call 58; refine (there_in _ _ _ _ _ H.out t htl).mono ?_; rintro e w' ⟨rfl, rfl⟩)
    go_ret
    exact ⟨rfl, rfl⟩
  | true =>
    simp only [if_true] at hlen
    go_enter Try.func23, Try.ntmps23
    go_wp2_with (go_at_call 58; refine (there_in _ _ _ _ _ H.out t htl).mono ?_; rintro e w' ⟨rfl, rfl⟩)
    go_ret
    exact ⟨rfl, rfl⟩
end Go.Proofs.Ytejedbknpjffkaa
