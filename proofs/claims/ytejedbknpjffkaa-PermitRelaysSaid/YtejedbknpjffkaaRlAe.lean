/- works, called by goroutine 0 beside goroutines that only leave. (Steps printed by rlae.py and rlwalk.py.) -/
import Derived.Test.YtejedbknpjffkaaRlAd
namespace Go.Proofs.Ytejedbknpjffkaa.Rl
open Go Go.Conc Go.Conc.Lib Go.RowKit Go.ConcR.Gen
open Go.ConcN (WgLive ShN)

theorem nm20 : (Try.f20.name == "runtime.NumGoroutine") = false := by kernel_rfl

theorem PB.congr {Sh : Loc → Prop} {B N n : Nat} {has has' : Nat → Bool} {W : World} (h : PB Sh B N n has W) (e : ∀ i, i < n → has i = has' i) : PB Sh B N n has' W :=
  ⟨h.row, h.str, fun i hi => by rw [← e i hi]; exact h.chan i hi, h.nsh, h.low⟩

section
variable {Fin : Machine → Trace → Prop} {Sh : Loc → Prop} {B : Nat} {W : World}
  {b : Frame} {a : Act} {kk : List Item} {cs : List Frame} {ops : Array Oper} {i : Nat} {rest : List Nat} {o : Oper} {ats : Array TypeId} {xs : Array Operand}

set_option maxRecDepth 100000 in
set_option maxHeartbeats 8000000 in
theorem c_works (hB : B ≤ W.heap.size + 4) (hSh : ∀ a : Addr, W.heap.size ≤ a.block → ¬ Sh (.cell a))
    (ho : ops[i]? = some o) (hw : Region.wanted o (yielded ops a.tmps) = true) (hk : b.kind ≠ .early) (hop : o.op = .call { callee := .value (.func 20), args := xs, argTypes := ats }) (hx : xs.map a.eval = #[])
    (hg : ∀ W', Below W.heap.size W W' → W'.heap.size = W.heap.size + 17 → To Try.prog Fin (fun l => Sh l ∨ ShN (W.heap.size + 4 + 6 + 3) l) (W.heap.size + 4 + 7 + 3 + 3) (G (b.at (a.put o.dst (.bool true)) (.inRegion ops rest :: kk)) cs) W') :
    To Try.prog Fin Sh B (G (b.at a (.inRegion ops (i :: rest) :: kk)) cs) W := by
  refine To.up (B' := W.heap.size + 4) ?_ hB
  clear hB
  refine t_call ho hw hk hop Try.func20 nm20 rfl ?_
  rw [hx]
  walk_nrmf Try.f20
  refine t_ctl rfl (fun _ => stepG_seq) ?_
  refine t_ctl rfl (fun _ => stepG_region) ?_
  simp only [List.size_toArray, List.length_cons, List.length_nil, Nat.reduceAdd, Nat.zero_add, List.range, List.range.loop]
  refine t_val (.bool false) rfl rfl (by k_ne) (fun _ => by go_simp) (fun _ => by simp [go_sem]) ?_
  walk_nrm
  refine t_ctl rfl (fun _ => stepG_region_end) ?_
  refine t_ctl rfl (fun _ => stepG_seq) ?_
  refine t_ctl rfl (fun _ => stepG_region) ?_
  simp only [List.size_toArray, List.length_cons, List.length_nil, Nat.reduceAdd, Nat.zero_add, List.range, List.range.loop]
  refine c_new (W := W) (n := 2) (by omega) (by omega) (by omega) (fun a ha => hSh a (by omega)) rfl rfl (by k_ne) rfl (by simp [Act.eval]) ?_
  intro W1 hMK
  have hP : PB Sh (W.heap.size + 4) W.heap.size 2 (fun _ => false) W1 := hMK.pb (by omega) (fun a ha => hSh a (by omega))
  have bel : Below W.heap.size W W1 := hMK.below
  have hs : W1.heap.size = W.heap.size + 4 := hMK.size
  clear hMK
  walk_nrm
  refine t_val (.pointer (some ⟨W.heap.size + 1, 0, none⟩)) rfl rfl (by k_ne) (fun _ => by go_simp) (fun _ => by simp [go_sem]) ?_
  walk_nrm
  refine t_ctl rfl (fun _ => stepG_region_end) ?_
  refine t_ctl rfl (fun _ => stepG_seq) ?_
  refine t_ctl rfl (fun _ => stepG_region) ?_
  simp only [List.size_toArray, List.length_cons, List.length_nil, Nat.reduceAdd, Nat.zero_add, List.range, List.range.loop]
  refine t_val (.pointer (some ⟨W.heap.size + 1, 0, none⟩)) rfl rfl (by k_ne) (fun _ => by go_simp) (fun _ => by simp [go_sem]) ?_
  walk_nrm
  obtain ⟨W2, hG, hQ, hm⟩ := hP.take (Fin := Fin) (t := 0) (by omega)
  have hG : Gives Fin Sh (W.heap.size + 4) 27 #[.pointer (some ⟨W.heap.size + 1, 0, none⟩), .int .i64 (0 : Nat)] W1 (.bool false) W2 := hG
  clear hP
  have hP : PB Sh (W.heap.size + 4) W.heap.size 2 (fun _ => false) W2 := hQ.congr (fun i hi => by rcases i with _ | _ | i <;> first | rfl | omega)
  have bel : Below W.heap.size W W2 := bel.trans (hm.below.mono (by omega))
  have hs : W2.heap.size = W.heap.size + 4 := hm.size.trans hs
  refine hG rfl rfl (by k_ne) rfl (by simp [Act.eval]) ?_
  walk_nrm
  clear hG hQ hm
  refine t_val (.bool true) rfl rfl (by k_ne) (fun _ => by go_simp) (fun _ => by simp [go_sem]) ?_
  walk_nrm
  refine t_val (.bool true) rfl rfl (by k_ne) (fun _ => by go_simp) (fun _ => by simp [go_sem]) ?_
  walk_nrm
  refine t_val (.pointer (some ⟨W.heap.size + 1, 0, none⟩)) rfl rfl (by k_ne) (fun _ => by go_simp) (fun _ => by simp [go_sem]) ?_
  walk_nrm
  obtain ⟨W3, hG, hQ, hm⟩ := hP.give (Fin := Fin) (t := 0) (by omega)
  have hG : Gives Fin Sh (W.heap.size + 4) 25 #[.pointer (some ⟨W.heap.size + 1, 0, none⟩), .int .i64 (0 : Nat)] W2 (.bool true) W3 := hG
  clear hP
  have hP : PB Sh (W.heap.size + 4) W.heap.size 2 (fun i => i == 0) W3 := hQ.congr (fun i hi => by rcases i with _ | _ | i <;> first | rfl | omega)
  have bel : Below W.heap.size W W3 := bel.trans (hm.below.mono (by omega))
  have hs : W3.heap.size = W.heap.size + 4 := hm.size.trans hs
  refine hG rfl rfl (by k_ne) rfl (by simp [Act.eval]) ?_
  walk_nrm
  clear hG hQ hm
  refine t_val (.bool true) rfl rfl (by k_ne) (fun _ => by go_simp) (fun _ => by simp [go_sem]) ?_
  walk_nrm
  refine t_val (.bool true) rfl rfl (by k_ne) (fun _ => by go_simp) (fun _ => by simp [go_sem]) ?_
  walk_nrm
  refine t_val (.pointer (some ⟨W.heap.size + 1, 0, none⟩)) rfl rfl (by k_ne) (fun _ => by go_simp) (fun _ => by simp [go_sem]) ?_
  walk_nrm
  obtain ⟨W4, hG, hQ, hm⟩ := hP.give (Fin := Fin) (t := 0) (by omega)
  have hG : Gives Fin Sh (W.heap.size + 4) 25 #[.pointer (some ⟨W.heap.size + 1, 0, none⟩), .int .i64 (0 : Nat)] W3 (.bool true) W4 := hG
  clear hP
  have hP : PB Sh (W.heap.size + 4) W.heap.size 2 (fun i => i == 0) W4 := hQ.congr (fun i hi => by rcases i with _ | _ | i <;> first | rfl | omega)
  have bel : Below W.heap.size W W4 := bel.trans (hm.below.mono (by omega))
  have hs : W4.heap.size = W.heap.size + 4 := hm.size.trans hs
  refine hG rfl rfl (by k_ne) rfl (by simp [Act.eval]) ?_
  walk_nrm
  clear hG hQ hm
  refine t_val (.bool true) rfl rfl (by k_ne) (fun _ => by go_simp) (fun _ => by simp [go_sem]) ?_
  walk_nrm
  refine t_val (.bool true) rfl rfl (by k_ne) (fun _ => by go_simp) (fun _ => by simp [go_sem]) ?_
  walk_nrm
  refine t_val (.pointer (some ⟨W.heap.size + 1, 0, none⟩)) rfl rfl (by k_ne) (fun _ => by go_simp) (fun _ => by simp [go_sem]) ?_
  walk_nrm
  have hG : Gives Fin Sh (W.heap.size + 4) 23 #[.pointer (some ⟨W.heap.size + 1, 0, none⟩), .int .i64 (0 : Nat)] W4 (.bool true) W4 := hP.tells (t := 0) (by omega)
  refine hG rfl rfl (by k_ne) rfl (by simp [Act.eval]) ?_
  walk_nrm
  clear hG
  refine t_val (.bool true) rfl rfl (by k_ne) (fun _ => by go_simp) (fun _ => by simp [go_sem]) ?_
  walk_nrm
  refine t_val (.bool true) rfl rfl (by k_ne) (fun _ => by go_simp) (fun _ => by simp [go_sem]) ?_
  walk_nrm
  refine t_val (.pointer (some ⟨W.heap.size + 1, 0, none⟩)) rfl rfl (by k_ne) (fun _ => by go_simp) (fun _ => by simp [go_sem]) ?_
  walk_nrm
  obtain ⟨W5, hG, hQ, hm⟩ := hP.take (Fin := Fin) (t := 0) (by omega)
  have hG : Gives Fin Sh (W.heap.size + 4) 27 #[.pointer (some ⟨W.heap.size + 1, 0, none⟩), .int .i64 (0 : Nat)] W4 (.bool true) W5 := hG
  clear hP
  have hP : PB Sh (W.heap.size + 4) W.heap.size 2 (fun _ => false) W5 := hQ.congr (fun i hi => by rcases i with _ | _ | i <;> first | rfl | omega)
  have bel : Below W.heap.size W W5 := bel.trans (hm.below.mono (by omega))
  have hs : W5.heap.size = W.heap.size + 4 := hm.size.trans hs
  refine hG rfl rfl (by k_ne) rfl (by simp [Act.eval]) ?_
  walk_nrm
  clear hG hQ hm
  refine t_val (.bool true) rfl rfl (by k_ne) (fun _ => by go_simp) (fun _ => by simp [go_sem]) ?_
  walk_nrm
  refine t_val (.bool true) rfl rfl (by k_ne) (fun _ => by go_simp) (fun _ => by simp [go_sem]) ?_
  walk_nrm
  refine t_val (.pointer (some ⟨W.heap.size + 1, 0, none⟩)) rfl rfl (by k_ne) (fun _ => by go_simp) (fun _ => by simp [go_sem]) ?_
  walk_nrm
  obtain ⟨W6, hG, hQ, hm⟩ := hP.take (Fin := Fin) (t := 0) (by omega)
  have hG : Gives Fin Sh (W.heap.size + 4) 27 #[.pointer (some ⟨W.heap.size + 1, 0, none⟩), .int .i64 (0 : Nat)] W5 (.bool false) W6 := hG
  clear hP
  have hP : PB Sh (W.heap.size + 4) W.heap.size 2 (fun _ => false) W6 := hQ.congr (fun i hi => by rcases i with _ | _ | i <;> first | rfl | omega)
  have bel : Below W.heap.size W W6 := bel.trans (hm.below.mono (by omega))
  have hs : W6.heap.size = W.heap.size + 4 := hm.size.trans hs
  refine hG rfl rfl (by k_ne) rfl (by simp [Act.eval]) ?_
  walk_nrm
  clear hG hQ hm
  refine t_val (.bool true) rfl rfl (by k_ne) (fun _ => by go_simp) (fun _ => by simp [go_sem]) ?_
  walk_nrm
  refine t_val (.bool true) rfl rfl (by k_ne) (fun _ => by go_simp) (fun _ => by simp [go_sem]) ?_
  walk_nrm
  refine t_val (.bool true) rfl rfl (by k_ne) (fun _ => by go_simp) (fun _ => by simp [go_sem]) ?_
  walk_nrm
  refine t_ctl rfl (fun _ => stepG_region_end) ?_
  refine t_ctl rfl (fun _ => stepG_seq) ?_
  refine t_ctl rfl (fun _ => stepG_region) ?_
  simp only [List.size_toArray, List.length_cons, List.length_nil, Nat.reduceAdd, Nat.zero_add, List.range, List.range.loop]
  refine t_val (.pointer (some ⟨W.heap.size + 1, 0, none⟩)) rfl rfl (by k_ne) (fun _ => by go_simp) (fun _ => by simp [go_sem]) ?_
  walk_nrm
  have hG := c_give_bad (hP.out (Fin := Fin) (t := 2) (by omega))
  refine hG rfl rfl (by k_ne) rfl (by simp [Act.eval]) ?_
  walk_nrm
  clear hG
  refine t_val (.bool true) rfl rfl (by k_ne) (fun _ => by go_simp) (fun _ => by simp [go_sem]) ?_
  walk_nrm
  refine t_val (.bool true) rfl rfl (by k_ne) (fun _ => by go_simp) (fun _ => by simp [go_sem]) ?_
  walk_nrm
  refine t_val (.pointer (some ⟨W.heap.size + 1, 0, none⟩)) rfl rfl (by k_ne) (fun _ => by go_simp) (fun _ => by simp [go_sem]) ?_
  walk_nrm
  have hG := c_has_bad (hP.out (Fin := Fin) (t := -1) (by omega))
  refine hG rfl rfl (by k_ne) rfl (by simp [Act.eval]) ?_
  walk_nrm
  clear hG
  refine t_val (.bool true) rfl rfl (by k_ne) (fun _ => by go_simp) (fun _ => by simp [go_sem]) ?_
  walk_nrm
  refine t_val (.bool true) rfl rfl (by k_ne) (fun _ => by go_simp) (fun _ => by simp [go_sem]) ?_
  walk_nrm
  refine t_val (.bool true) rfl rfl (by k_ne) (fun _ => by go_simp) (fun _ => by simp [go_sem]) ?_
  walk_nrm
  refine t_val (.pointer (some ⟨W.heap.size + 1, 0, none⟩)) rfl rfl (by k_ne) (fun _ => by go_simp) (fun _ => by simp [go_sem]) ?_
  walk_nrm
  have hG := c_block_bad (hP.out (Fin := Fin) (t := 2) (by omega))
  refine hG rfl rfl (by k_ne) rfl (by simp [Act.eval]) ?_
  walk_nrm
  clear hG
  refine t_val (.bool true) rfl rfl (by k_ne) (fun _ => by go_simp) (fun _ => by simp [go_sem]) ?_
  walk_nrm
  refine t_val (.bool true) rfl rfl (by k_ne) (fun _ => by go_simp) (fun _ => by simp [go_sem]) ?_
  walk_nrm
  refine t_val (.bool true) rfl rfl (by k_ne) (fun _ => by go_simp) (fun _ => by simp [go_sem]) ?_
  walk_nrm
  refine t_ctl rfl (fun _ => stepG_region_end) ?_
  refine t_ctl rfl (fun _ => stepG_seq) ?_
  refine t_ctl rfl (fun _ => stepG_region) ?_
  simp only [List.size_toArray, List.length_cons, List.length_nil, Nat.reduceAdd, Nat.zero_add, List.range, List.range.loop]
  refine t_val (.bool true) rfl rfl (by k_ne) (fun _ => by go_simp) (fun _ => by simp [go_sem]) ?_
  walk_nrm
  refine t_val (.bool true) rfl rfl (by k_ne) (fun _ => by go_simp) (fun _ => by simp [go_sem]) ?_
  walk_nrm
  refine t_val (.bool true) rfl rfl (by k_ne) (fun _ => by go_simp) (fun _ => by simp [go_sem]) ?_
  walk_nrm
  refine t_val (.bool true) rfl rfl (by k_ne) (fun _ => by go_simp) (fun _ => by simp [go_sem]) ?_
  walk_nrm
  refine t_val (.bool true) rfl rfl (by k_ne) (fun _ => by go_simp) (fun _ => by simp [go_sem]) ?_
  walk_nrm
  refine t_val (.pointer (some ⟨W.heap.size + 1, 0, none⟩)) rfl rfl (by k_ne) (fun _ => by go_simp) (fun _ => by simp [go_sem]) ?_
  walk_nrm
  obtain ⟨W7, hG, hQ, hm⟩ := hP.give (Fin := Fin) (t := 1) (by omega)
  have hG : Gives Fin Sh (W.heap.size + 4) 25 #[.pointer (some ⟨W.heap.size + 1, 0, none⟩), .int .i64 (1 : Nat)] W6 (.bool true) W7 := hG
  clear hP
  have hP : PB Sh (W.heap.size + 4) W.heap.size 2 (fun i => i == 1) W7 := hQ.congr (fun i hi => by rcases i with _ | _ | i <;> first | rfl | omega)
  have bel : Below W.heap.size W W7 := bel.trans (hm.below.mono (by omega))
  have hs : W7.heap.size = W.heap.size + 4 := hm.size.trans hs
  refine hG rfl rfl (by k_ne) rfl (by simp [Act.eval]) ?_
  walk_nrm
  clear hG hQ hm
  refine t_val (.bool true) rfl rfl (by k_ne) (fun _ => by go_simp) (fun _ => by simp [go_sem]) ?_
  walk_nrm
  refine t_val (.bool true) rfl rfl (by k_ne) (fun _ => by go_simp) (fun _ => by simp [go_sem]) ?_
  walk_nrm
  refine t_val (.pointer (some ⟨W.heap.size + 1, 0, none⟩)) rfl rfl (by k_ne) (fun _ => by go_simp) (fun _ => by simp [go_sem]) ?_
  walk_nrm
  obtain ⟨W8, hG, hQ, hm⟩ := hP.block (Fin := Fin) (t := 1) (by omega) rfl
  have hG : Gives Fin Sh (W.heap.size + 4) 26 #[.pointer (some ⟨W.heap.size + 1, 0, none⟩), .int .i64 (1 : Nat)] W7 (.bool true) W8 := hG
  clear hP
  have hP : PB Sh (W.heap.size + 4) W.heap.size 2 (fun _ => false) W8 := hQ.congr (fun i hi => by rcases i with _ | _ | i <;> first | rfl | omega)
  have bel : Below W.heap.size W W8 := bel.trans (hm.below.mono (by omega))
  have hs : W8.heap.size = W.heap.size + 4 := hm.size.trans hs
  refine hG rfl rfl (by k_ne) rfl (by simp [Act.eval]) ?_
  walk_nrm
  clear hG hQ hm
  refine t_val (.bool true) rfl rfl (by k_ne) (fun _ => by go_simp) (fun _ => by simp [go_sem]) ?_
  walk_nrm
  refine t_val (.bool true) rfl rfl (by k_ne) (fun _ => by go_simp) (fun _ => by simp [go_sem]) ?_
  walk_nrm
  refine t_val (.pointer (some ⟨W.heap.size + 1, 0, none⟩)) rfl rfl (by k_ne) (fun _ => by go_simp) (fun _ => by simp [go_sem]) ?_
  walk_nrm
  have hG : Gives Fin Sh (W.heap.size + 4) 23 #[.pointer (some ⟨W.heap.size + 1, 0, none⟩), .int .i64 (1 : Nat)] W8 (.bool false) W8 := hP.tells (t := 1) (by omega)
  refine hG rfl rfl (by k_ne) rfl (by simp [Act.eval]) ?_
  walk_nrm
  clear hG
  refine t_val (.bool true) rfl rfl (by k_ne) (fun _ => by go_simp) (fun _ => by simp [go_sem]) ?_
  walk_nrm
  refine t_val (.bool true) rfl rfl (by k_ne) (fun _ => by go_simp) (fun _ => by simp [go_sem]) ?_
  walk_nrm
  refine t_val (.bool true) rfl rfl (by k_ne) (fun _ => by go_simp) (fun _ => by simp [go_sem]) ?_
  walk_nrm
  refine c_relay (W := W8) (n := 3) (k := 5) (by omega) (by omega) (by omega) (by omega) (fun a ha => hSh a (by omega)) rfl rfl (by k_ne) rfl (by simp [Act.eval]) ?_
  intro W' hb hs'
  rw [hs] at hs' hb ⊢
  rw [show (((3 * 5 : Nat)) : Int) = 15 from rfl]
  have hg := hg W' (bel.trans (hb.mono (by omega))) (by omega)
  walk_nrm
  refine t_val (.bool true) rfl rfl (by k_ne) (fun _ => by go_simp) (fun _ => by simp [go_sem]) ?_
  walk_nrm
  refine t_val (.bool true) rfl rfl (by k_ne) (fun _ => by go_simp) (fun _ => by simp [go_sem]) ?_
  walk_nrm
  refine t_val (.bool true) rfl rfl (by k_ne) (fun _ => by go_simp) (fun _ => by simp [go_sem]) ?_
  walk_nrm
  refine t_ctl rfl (fun _ => stepG_region_end) ?_
  refine t_ctl rfl (fun _ => stepG_ret') ?_
  refine t_leave1 rfl rfl Try.func20 rfl ?_
  rw [ho]
  exact hg
end
end Go.Proofs.Ytejedbknpjffkaa.Rl
