/- Machines that get a thread: Clone, Make, Add; conditions: the blocks of the machine and of the tasks are known. -/
import Derived.Test.YtejedbknpjffkaaF
namespace Go.Proofs.Ytejedbknpjffkaa
open Go.RowKit

theorem info32 : (Try.prog.info? 32).map (fun i => (i.zero, i.size, i.bytes)) = some (some (.pointer none), 1, 8) := by kernel_rfl
theorem info100 : (Try.prog.info? 100).map (fun i => (i.zero, i.size, i.bytes)) = some (some (.pointer none), 1, 8) := by kernel_rfl

theorem ownsRow_low {w : World} {base base' : Nat} {e : TypeId} {size : Nat} {v : Value} {n : Nat} {xs : List Value} (h : w.ownsRow base e size v n xs) (hb : base' ≤ base) : w.ownsRow base' e size v n xs := by
  refine ⟨h.1, ?_⟩
  rcases h.2 with hn | ⟨g, cap, cur, rfl, hg, r⟩
  · exact .inl hn
  · exact .inr ⟨g, cap, cur, rfl, Nat.le_trans hb hg, r⟩

theorem row_cell {w : World} {base : Nat} {e : TypeId} {size g n c j : Nat} {xs : List Value} {u : Value} (h : w.ownsRow base e size (.slice (some ⟨g, 0, none⟩) n c) n xs) (hj : xs[j]? = some u) : w.cell? ⟨g, j, none⟩ = some u := by
  have := h.cells rfl j u hj
  have e : (⟨g, 0, none⟩ : Addr).add j = ⟨g, j, none⟩ := by unfold Addr.add; split <;> simp_all
  rwa [e] at this

theorem clone_nil (w : World) : Calls Try.prog 44 #[.slice none 0 0] w fun e w' => e = .returned (.slice none 0 0) ∧ w = w' := by
  have qT : ∀ (w : World) (a : Option Addr) (n c n' c' : Nat), (binOp .eql 30 (.slice a n c) (.slice none n' c')).run Try.prog w = .ok (.bool a.isNone) w := fun w a n c n' c' => Lib.run_eql_slice_nil w _ _ a n c n' c' Try.underlying30
  go_enter Try.func44, Try.ntmps44
  go_wp2
  go_ret
  exact ⟨rfl, rfl⟩

def CloneSome (w : World) (n : Nat) (xs : List Value) (e : Ending) (w' : World) : Prop :=
  ∃ g cap, e = .returned (.slice (some ⟨g, 0, none⟩) n cap) ∧ w'.ownsRow w.heap.size 32 1 (.slice (some ⟨g, 0, none⟩) n cap) n xs ∧ Ch [] w w' ∧ w.heap.size ≤ g

set_option maxHeartbeats 1000000 in
theorem clone_some (w : World) (br n c : Nat) (xs : List Value) (hx : ∀ j u, xs[j]? = some u → w.cell? ⟨br, j, none⟩ = some u) (hl : xs.length = n) (h1 : 0 < n) (h2 : n ≤ 1000) (ho : ∀ u ∈ xs, u.oneCell' = true) (hb : br < w.heap.size) :
    Calls Try.prog 44 #[.slice (some ⟨br, 0, none⟩) n c] w (CloneSome w n xs) := by
  have qT : ∀ (w : World) (a : Option Addr) (n c n' c' : Nat), (binOp .eql 30 (.slice a n c) (.slice none n' c')).run Try.prog w = .ok (.bool a.isNone) w := fun w a n c n' c' => Lib.run_eql_slice_nil w _ _ a n c n' c' Try.underlying30
  obtain ⟨i0, hi, hz0, hz1, hz2⟩ := info_parts info32
  have hx' : ∀ j u, xs[j]? = some u → (w.alloc (.cells #[] 32)).cell? ((⟨br, 0, none⟩ : Addr).add j) = some u := by
    intro j u hu
    have e : (⟨br, 0, none⟩ : Addr).add j = ⟨br, j, none⟩ := by unfold Addr.add; split <;> simp_all
    rw [e, World.cell?_alloc_past _ _ _ hb]; exact hx j u hu
  have hown0 : (w.alloc (.cells #[] 32)).ownsRow w.heap.size 32 1 (.slice (some ⟨w.heap.size, 0, none⟩) 0 0) 0 [] := World.ownsRow_made w #[] 0 (Nat.le_refl _) (by unfold maxLen; omega) (by simp)
  have HL := hidh hl
  clear hl hx
  go_enter Try.func44, Try.ntmps44
  go_wp2_with (refine wpList_append_lies _ rfl _ _ 30 rfl w.heap.size 32 i0 (.pointer none) 1 8 Try.underlying30 hi hz0 hz1 hz2 rfl (by decide) (.slice (some ⟨w.heap.size, 0, none⟩) 0 0) 0 [] rfl hown0 ⟨br, 0, none⟩ n c xs rfl (by rw [HL.out]; omega) hx' ho h1 (by unfold maxLen; omega) (by omega) (by simp) _ rfl ?_; intro g cap w1 hown1 hgrow hat hlt; clear hx')
  go_ret
  simp only [Nat.zero_add, List.nil_append] at hown1
  refine ⟨g, cap, rfl, hown1, ((Ch.refl [] w).alloc _).trans' (ch_grown hgrow) (by intro i hi; simp [Value.ownBlock] at hi; omega), ?_⟩
  rcases hat with h | h
  · simp [Value.ownBlock] at h; omega
  · simp at h; omega

def MadeThread (w : World) (pm bl n B : Nat) (tv : Value) (ps : List Value) (nx : Option Nat) (e : Ending) (w' : World) : Prop :=
  ∃ p g cap, e = .returned (.int .i64 n) ∧ w.heap.size ≤ p ∧ ThreadAt w' p nx (.func (.func 46) #[] #[.pointer (some ⟨bl, 0, none⟩)]) (.slice none 0 0) ∧ MachAt w' pm (.slice (some ⟨g, 0, none⟩) (n + 1) cap) ∧
    w'.ownsRow B 100 1 (.slice (some ⟨g, 0, none⟩) (n + 1) cap) (n + 1) (ps ++ [.pointer (some ⟨p, 0, none⟩)]) ∧ Ch (pm :: tv.ownBlock.toList) w w' ∧ (tv.ownBlock = some g ∨ w.heap.size ≤ g)

set_option maxRecDepth 100000 in
set_option maxHeartbeats 2000000 in
theorem make_th (w : World) (pm bl n B : Nat) (tv : Value) (ps : List Value) (hM : MachAt w pm tv) (hown : w.ownsRow B 100 1 tv n ps) (hn : n < 100) (hB : B ≤ w.heap.size) (nx : Option Nat)
    (hnext : Calls Try.prog 46 #[.int .i64 0, .pointer (some ⟨bl, 0, none⟩)] w fun e w' => e = .returned (ptrTo nx) ∧ w = w')
    (hnx : ∀ q', nx = some q' → ∃ r u bv', TaskAt w q' (some r) u bv') :
    Calls Try.prog 45 #[.pointer (some ⟨pm, 0, none⟩), .func (.func 46) #[] #[.pointer (some ⟨bl, 0, none⟩)]] w (MadeThread w pm bl n B tv ps nx) := by
  have c0 := hM.c0
  have f0 : w.frozen? ⟨pm, 0, none⟩ = false := fz_of hM
  have hpm := lt_of_heap hM
  have hnm := not_own hown hM (by decide)
  have he : ∀ w, (callFunc 46 #[.int .i64 0, .pointer (some ⟨bl, 0, none⟩)]).run Try.prog w = .ok (.enter 46 #[.int .i64 0, .pointer (some ⟨bl, 0, none⟩)]) w := fun _ => by kernel_rfl
  obtain ⟨i0, hi, hz0, hz1, hz2⟩ := info_parts info100
  have hT1 : ThreadAt (w.alloc (.cells #[ptrTo nx, .func (.func 46) #[] #[.pointer (some ⟨bl, 0, none⟩)], .slice none 0 0] 103)) w.heap.size nx (.func (.func 46) #[] #[.pointer (some ⟨bl, 0, none⟩)]) (.slice none 0 0) := al_new rfl _
  have hon : Calls Try.prog 49 #[.pointer (some ⟨w.heap.size, 0, none⟩)] (w.alloc (.cells #[ptrTo nx, .func (.func 46) #[] #[.pointer (some ⟨bl, 0, none⟩)], .slice none 0 0] 103)) fun e w' => e = .returned (.tuple #[]) ∧ (w.alloc (.cells #[ptrTo nx, .func (.func 46) #[] #[.pointer (some ⟨bl, 0, none⟩)], .slice none 0 0] 103)) = w' := by
    cases nx with
    | none => exact on_none _ _ _ _ hT1
    | some q' =>
      obtain ⟨r, u, bv', h⟩ := hnx q' rfl
      exact on_stays _ _ _ _ _ _ _ _ hT1 (al h _)
  obtain ⟨x, hx⟩ := @hnext_val nx
  rw [hx] at hnext hT1 hon
  have HX := hidh hx
  clear hx hnx
  go_enter Try.func45, Try.ntmps45
  go_wp2_with (first | (go_at_call 46; refine hnext.mono ?_; rintro e w' ⟨rfl, rfl⟩) | (go_at_call 49; refine hon.mono ?_; rintro e w' ⟨rfl, rfl⟩) | (refine wpList_append_lies _ rfl _ _ 92 rfl B 100 i0 (.pointer none) 1 8 Try.underlying92 hi hz0 hz1 hz2 rfl (by decide) tv n ps rfl ((hown.alloc _).alloc _) ⟨w.heap.size + 1, 0, none⟩ 1 1 [.pointer (some ⟨w.heap.size, 0, none⟩)] rfl rfl (World.news_of_block (al_new (by simp) _)) (by simp [Value.oneCell']) (by omega) (by unfold maxLen; omega) (by omega) (by simp; omega) _ rfl ?_; intro g cap w1 hown1 hgrow hat hlt; have hc1 : Ch tv.ownBlock.toList w w1 := (((Ch.refl _ w).alloc _).alloc _).trans (ch_grown hgrow); have hM1 := hM.ch hc1 hnm; have c1 := hM1.c0; have f1 : w1.frozen? ⟨pm, 0, none⟩ = false := fz_of hM1))
  go_ret
  have hg : tv.ownBlock = some g ∨ w.heap.size ≤ g := hat.imp id (fun e => by rw [e]; simp; omega)
  have hnT : w.heap.size ≠ pm := by omega
  have hown' : (w.alloc (.cells #[.pointer x, .func (.func 46) #[] #[.pointer (some ⟨bl, 0, none⟩)], .slice none 0 0] 103)).heap[w.heap.size]? = some (.cells #[.pointer x, .func (.func 46) #[] #[.pointer (some ⟨bl, 0, none⟩)], .slice none 0 0] 103) := al_new rfl _
  have hT2 : w1.heap[w.heap.size]? = some (.cells #[.pointer x, .func (.func 46) #[] #[.pointer (some ⟨bl, 0, none⟩)], .slice none 0 0] 103) := (ch_grown hgrow).heap (al hown' _) (by
    intro hm
    have hb : tv.ownBlock = some w.heap.size := by simpa using hm
    have := (hown.lt _ hb).2
    omega)
  refine ⟨w.heap.size, g, cap, rfl, Nat.le_refl _, ?_, st_same hM1 _, ownsRow_setCell hown1 hM1 (by decide) _, (hc1.mono (fun _ h => List.mem_cons_of_mem _ h)).setCell (by simp) _, hg⟩
  unfold ThreadAt
  rw [HX.out]
  exact st_other hT2 hnT _

def AddedThread (w : World) (pm n B : Nat) (tv : Value) (ps : List Value) (xs : List Value) (nx : Option Nat) (e : Ending) (w' : World) : Prop :=
  ∃ p bl g cap lv, e = .returned (.int .i64 n) ∧ w.heap.size ≤ p ∧ w.heap.size ≤ bl ∧ ThreadAt w' p nx (.func (.func 46) #[] #[.pointer (some ⟨bl, 0, none⟩)]) (.slice none 0 0) ∧ Box w' bl 30 lv ∧ w'.ownsRow w.heap.size 32 1 lv xs.length xs ∧
    MachAt w' pm (.slice (some ⟨g, 0, none⟩) (n + 1) cap) ∧ w'.ownsRow B 100 1 (.slice (some ⟨g, 0, none⟩) (n + 1) cap) (n + 1) (ps ++ [.pointer (some ⟨p, 0, none⟩)]) ∧ Ch (pm :: tv.ownBlock.toList) w w' ∧ (tv.ownBlock = some g ∨ w.heap.size ≤ g)

set_option maxRecDepth 100000 in
set_option maxHeartbeats 2000000 in
/-- Add of no tasks. -/
theorem mach_add_nil (w : World) (pm n B : Nat) (tv : Value) (ps : List Value) (hM : MachAt w pm tv) (hown : w.ownsRow B 100 1 tv n ps) (hn : n < 100) (hB : B ≤ w.heap.size) :
    Calls Try.prog 13 #[.pointer (some ⟨pm, 0, none⟩), .slice none 0 0] w (AddedThread w pm n B tv ps [] none) := by
  have hpm := lt_of_heap hM
  have hch : Ch [] w (w.alloc (.cells #[.slice none 0 0] 30)) := (Ch.refl _ w).alloc _
  have hbx : Box (w.alloc (.cells #[.slice none 0 0] 30)) w.heap.size 30 (.slice none 0 0) := al_new rfl _
  go_enter Try.func13, Try.ntmps13
  go_wp2_with (go_at_call 44; refine (clone_nil _).mono ?_; rintro e w' ⟨rfl, rfl⟩)
  refine (make_th _ pm w.heap.size n B tv ps (hM.ch hch (by simp)) (ownsRow_ch hown hch (by simp)) hn (Nat.le_trans hB hch.size) none (next_out _ _ 0 0 0 none hbx (by omega) 0 rfl) (by simp)).mono ?_
  rintro e w1 ⟨p, g, cap, rfl, h1, h2, h3, h4, h5, h6⟩
  go_wp2
  go_ret
  have hs := hch.size
  refine ⟨p, w.heap.size, g, cap, .slice none 0 0, rfl, by omega, Nat.le_refl _, h2, hbx.ch h5 ?_, World.ownsRow_nil _ _ _ _, h3, h4, (hch.mono (by simp)).trans h5, h6.imp id (by omega)⟩
  intro hm
  rcases List.mem_cons.1 hm with e | hm
  · omega
  · have hb : tv.ownBlock = some w.heap.size := by simpa using hm
    have := (hown.lt _ hb).2
    omega

set_option maxRecDepth 100000 in
set_option maxHeartbeats 2000000 in
/-- Add of some tasks, the first one not done. -/
theorem mach_add_some (w : World) (pm n B br m c q : Nat) (tv : Value) (ps xs : List Value) (hM : MachAt w pm tv) (hown : w.ownsRow B 100 1 tv n ps) (hn : n < 100) (hB : B ≤ w.heap.size)
    (hx : ∀ j u, xs[j]? = some u → w.cell? ⟨br, j, none⟩ = some u) (hl : xs.length = m) (h1 : 0 < m) (h2 : m ≤ 1000) (ho : ∀ u ∈ xs, u.oneCell' = true) (hb : br < w.heap.size)
    (hq : xs[0]? = some (.pointer (some ⟨q, 0, none⟩))) (r : Nat) (u : Int) (bv : Value) (hT : TaskAt w q (some r) u bv) :
    Calls Try.prog 13 #[.pointer (some ⟨pm, 0, none⟩), .slice (some ⟨br, 0, none⟩) m c] w (AddedThread w pm n B tv ps xs (some q)) := by
  have hpm := lt_of_heap hM
  have hch : Ch [] w (w.alloc (.cells #[.slice (some ⟨br, 0, none⟩) m c] 30)) := (Ch.refl _ w).alloc _
  have hbx : Box (w.alloc (.cells #[.slice (some ⟨br, 0, none⟩) m c] 30)) w.heap.size 30 (.slice (some ⟨br, 0, none⟩) m c) := al_new rfl _
  have hcl := clone_some (w.alloc (.cells #[.slice (some ⟨br, 0, none⟩) m c] 30)) br m c xs (fun j u hu => by rw [World.cell?_alloc_past _ _ _ hb]; exact hx j u hu) hl h1 h2 ho (by simp; omega)
  have hsz : (w.alloc (.cells #[.slice (some ⟨br, 0, none⟩) m c] 30)).heap.size = w.heap.size + 1 := by simp
  have HC := hidh hcl
  have HX := hidh hx
  have HL := hidh hl
  have HQ := hidh hq
  clear hcl hx hl hq
  have c0 := hbx.cell
  have f0 := hbx.fz
  go_enter Try.func13, Try.ntmps13
  go_wp2_with (go_at_call 44; refine HC.out.mono ?_; rintro e w1 ⟨g0, cap0, rfl, hown0, hch0, hg0⟩; have hbx1 := hbx.ch hch0 (by simp); have c1 := hbx1.cell; have f1 := hbx1.fz)
  have hbx2 : Box (w1.setCell ⟨w.heap.size, 0, none⟩ (.slice (some ⟨g0, 0, none⟩) m cap0)) w.heap.size 30 (.slice (some ⟨g0, 0, none⟩) m cap0) := st_same hbx1 _
  have hrow2 : (w1.setCell ⟨w.heap.size, 0, none⟩ (.slice (some ⟨g0, 0, none⟩) m cap0)).ownsRow w.heap.size 32 1 (.slice (some ⟨g0, 0, none⟩) m cap0) m xs := ownsRow_setCell (ownsRow_low hown0 (by omega)) hbx1 (by decide) _
  have hch2 : Ch [] w (w1.setCell ⟨w.heap.size, 0, none⟩ (.slice (some ⟨g0, 0, none⟩) m cap0)) := (hch.trans hch0).setCell (by right; simp) _
  clear c0 f0 c1 f1 hbx1 hown0
  revert hbx2 hrow2 hch2
  generalize w1.setCell ⟨w.heap.size, 0, none⟩ (.slice (some ⟨g0, 0, none⟩) m cap0) = W
  intro hbx2 hrow2 hch2
  refine (make_th _ pm w.heap.size n B tv ps (hM.ch hch2 (by simp)) (ownsRow_ch hown hch2 (by simp)) hn (Nat.le_trans hB hch2.size) (some q) (next_in _ _ g0 0 m cap0 q hbx2 h1 (row_cell hrow2 HQ.out) 0 rfl) (fun q' e => by cases e; exact ⟨r, u, bv, hT.ch hch2 (by simp)⟩)).mono ?_
  rintro e w2 ⟨p, g, cap, rfl, k1, k2, k3, k4, k5, k6⟩
  go_wp2
  go_ret
  have hs := hch2.size
  have hout : ∀ z, w.heap.size ≤ z → z ∉ pm :: tv.ownBlock.toList := by
    intro z hz hm
    rcases List.mem_cons.1 hm with e | hm
    · omega
    · have hb : tv.ownBlock = some z := by simpa using hm
      have := (hown.lt _ hb).2
      omega
  refine ⟨p, w.heap.size, g, cap, _, rfl, by omega, Nat.le_refl _, k2, hbx2.ch k5 (hout _ (Nat.le_refl _)), ?_, k3, k4, (hch2.mono (by simp)).trans k5, k6.imp id (by omega)⟩
  rw [HL.out]
  refine ownsRow_ch hrow2 k5 (fun z hz => hout _ (hrow2.lt _ hz).1)
end Go.Proofs.Ytejedbknpjffkaa
