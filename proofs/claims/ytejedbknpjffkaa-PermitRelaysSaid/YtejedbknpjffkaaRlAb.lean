/- THE RELAY: the starter: it starts the workers, gives the first, waits. (Steps printed by rlab.py and rlwalk.py.) -/
import Derived.Test.YtejedbknpjffkaaRlAa
import Derived.Test.YtejedbknpjffkaaRlF
namespace Go.Proofs.Ytejedbknpjffkaa.Rl
open Go Go.Conc Go.Conc.Lib Go.RowKit Go.ConcR.Gen
open Go.ConcN (WgLive ShN)

noncomputable def body24 : Code := Try.f24.body.getD .skip
/-- from the loop's own numbers on -/
noncomputable def X24 : Code := match body24 with | .seq _ (.seq _ (.seq _ (.seq _ (.seq _ c)))) => c | _ => .skip
noncomputable def L24 : Code := match X24 with | .seq (.seq _ (.block _ (.loop c))) _ => c | _ => .skip
noncomputable def E24 : Code := match X24 with | .seq _ c => c | _ => .skip
noncomputable def blk24 : Code := match L24 with | .seq _ (.seq _ (.seq (.block _ c) _)) => c | _ => .skip
noncomputable def R11 : Code := match L24 with | .seq _ (.seq _ (.seq _ c)) => c | _ => .skip
noncomputable def O10 : Array Oper := match blk24 with | .seq _ (.seq _ (.region _ o _)) => o | _ => #[]
noncomputable def O13 : Array Oper := match E24 with | .seq _ (.seq (.region _ o _) _) => o | _ => #[]
noncomputable def E14 : Code := match E24 with | .seq _ (.seq _ c) => c | _ => .skip

theorem stepG_spawn0 {P : Program} {main : Bool} {b : Frame} {a : Act} {k : List Item} {cs : List Frame} {w w' : World} {ops : Array Oper} {i : Nat} {rest : List Nat} {o : Oper} {d : Deferred} {f : Fn} {c : Array Value} (ho : ops[i]? = some o) (hw : Region.wanted o (yielded ops a.tmps) = true)
    (hk : b.kind ≠ .early) (hr : (execOp a.eval o).run P w = .ok (.spawn d) w') (hd : d.target = .fn f c) (he : (execOp a.eval o).events P w #[] = #[]) :
    stepG P main (G (b.at a (.inRegion ops (i :: rest) :: k)) cs) w = .spawn (G (b.at (a.put o.dst undef) (.inRegion ops rest :: k)) cs) (born P d) w' #[] := by rw [stepG_spawn ho hw hk hr hd, listed_nil he]

section
variable {Y : Lay} {Anch Anch' Back : Goroutine → World → Prop}
theorem AtKd.mono (h : ∀ g w, Anch g w → Anch' g w) {g : Goroutine} {w : World} (x : AtKd Y Anch g w) : AtKd Y Anch' g w := by
  obtain ⟨hs, g', e, m, hG⟩ := x
  exact ⟨hs, g', e, m, goes_weaken (fun _ _ h => h) (fun _ _ _ h => h) h hG⟩
theorem AtW2.mono (h : ∀ g w, Anch g w → Anch' g w) {vs : Nat} {g : Goroutine} {w : World} (x : AtW2 Y Anch Back vs g w) : AtW2 Y Anch' Back vs g w := by
  refine ⟨x.1, fun v hv hw => ?_⟩
  obtain ⟨h1, h2⟩ := x.2 v hv hw
  refine ⟨h1, fun hne => ?_⟩
  obtain ⟨g', e, m, hG⟩ := h2 hne
  exact ⟨g', e, m, goes_weaken (fun _ _ h => h) (fun _ _ _ h => h) h hG⟩
theorem AtW1.mono (h : ∀ g w, Anch g w → Anch' g w) {g : Goroutine} {w : World} (x : AtW1 Y Anch Back g w) : AtW1 Y Anch' Back g w := by
  refine ⟨x.1, fun v hv hw => ?_⟩
  obtain ⟨g', e, h1, h2⟩ := x.2 v hv hw
  refine ⟨g', e, h1, fun hne => ?_⟩
  obtain ⟨m, hG⟩ := h2 hne
  exact ⟨m, goes_weaken (fun _ _ h => h) (fun _ _ _ h => h) (fun _ _ x => AtW2.mono h x) hG⟩
end

section
variable {N n k m0 j r B : Nat} {Sh : Loc → Prop} {cs : List Frame} {W0 : World}

/-- The frame of Relay at its Wait. -/
noncomputable def fr24 (T : Array Value) : Frame := (base 24).at ⟨T, []⟩ (.inRegion O13 [0] :: [.code E14])
/-- THE ANCHOR, whatever lies in the frame's other slots. -/
def AnchX (W0 : World) (N n k m0 B : Nat) (Sh : Loc → Prop) (cs : List Frame) (g : Goroutine) (w : World) : Prop :=
  ∃ T : Array Value, T.size = 36 ∧ T[6]? = some (.pointer (some ⟨N + 5 + n, 0, none⟩)) ∧ Anch (lay N n k m0 Sh B) lk (MF W0 N n k n n) (fr24 T) cs g w

theorem spawns_back {g g' : Goroutine} {w : World} {c : Nat} (h : ∀ {Stop : Goroutine → World → Prop} {z : Nat}, Goes Try.prog true (RM (lay N n k m0 Sh B)) (DM (lay N n k m0 Sh B) (n - r)) Stop z g' w → Goes Try.prog true (RM (lay N n k m0 Sh B)) (DM (lay N n k m0 Sh B) (n - r)) Stop (z + c) g w) {An : Goroutine → World → Prop} :
    Spawns (lay N n k m0 Sh B) An r g' w → Spawns (lay N n k m0 Sh B) An r g w := by
  cases r with
  | zero => exact fun ⟨m, hm⟩ => ⟨_, h hm⟩
  | succ r => exact fun ⟨m, hm⟩ => ⟨_, h hm⟩

set_option maxRecDepth 100000 in
set_option maxHeartbeats 2000000 in
/-- All are started: the first is given; to Wait. -/
theorem spawn_end (h1 : 1 ≤ n) (hn : n < 2147483648) (hB : N + 7 + n + n ≤ B) (hSh : ∀ a : Addr, N ≤ a.block → ¬ Sh (.cell a)) (j0 j1 j8 j9 j10 j11 j12 j13 j14 j15 j16 j17 j18 j19 j20 j21 j22 j23 j24 j27 j28 j29 j30 j31 j32 j33 j34 j35 : Value) (w : World) (hF : MF W0 N n k n n w ∧ WgLive 127 (N + 6 + n) w) :
    Spawns (lay N n k m0 Sh B) (AnchX W0 N n k m0 B Sh cs) 0 (G ((base 24).at ⟨#[j0, j1, .pointer (some ⟨N, 0, none⟩), .pointer (some ⟨N + 1, 0, none⟩), .int .i64 0, .pointer (some ⟨N + 4 + n, 0, none⟩), .pointer (some ⟨N + 5 + n, 0, none⟩), .pointer (some ⟨N + 6 + n, 0, none⟩), j8, j9, j10, j11, j12, j13, j14, j15, j16, j17, j18, j19, j20, j21, j22, j23, j24, .int .i64 n, .int .i64 n, j27, j28, j29, j30, j31, j32, j33, j34, j35], []⟩ [.code L24, .inLoop L24, .inBlock 0, .code E24]) cs) w := by
  have T : Terms (RM (lay N n k m0 Sh B)) (DM (lay N n k m0 Sh B) n) := tm_
  have hrl : ∀ a b, MF W0 N n k n n a ∧ WgLive 127 (N + 6 + n) a → RM (lay N n k m0 Sh B) a b → MF W0 N n k n n b ∧ WgLive 127 (N + 6 + n) b := fun _ _ h r => ⟨h.1.rely r, r.live h.2⟩
  have q : decide ((n : Int) < (n : Int)) = false := decide_eq_false (by omega)
  refine ⟨0 + 76 + 10, ?_⟩
  rw [lay_P]
  change Goes Try.prog true (RM (lay N n k m0 Sh B)) (DM (lay N n k m0 Sh B) n) (AtGive (lay N n k m0 Sh B) (AnchX W0 N n k m0 B Sh cs)) (0 + 76 + 10) (G ((base 24).at ⟨#[j0, j1, .pointer (some ⟨N, 0, none⟩), .pointer (some ⟨N + 1, 0, none⟩), .int .i64 0, .pointer (some ⟨N + 4 + n, 0, none⟩), .pointer (some ⟨N + 5 + n, 0, none⟩), .pointer (some ⟨N + 6 + n, 0, none⟩), j8, j9, j10, j11, j12, j13, j14, j15, j16, j17, j18, j19, j20, j21, j22, j23, j24, .int .i64 n, .int .i64 n, j27, j28, j29, j30, j31, j32, j33, j34, j35], []⟩ [.code L24, .inLoop L24, .inBlock 0, .code E24]) cs) w
  simp only [L24, E24, X24, body24, Try.f24, Option.getD_some]
  refine gw_ctl T rfl (fun _ => stepG_seq) ?_
  refine gw_ctl T rfl (fun _ => stepG_region) ?_
  simp only [List.size_toArray, List.length_cons, List.length_nil, Nat.reduceAdd, Nat.zero_add, List.range, List.range.loop]
  refine gw_val T (.bool false) rfl rfl (by k_ne) (fun _ => by go_simp) (fun _ => by simp [go_sem, *]) ?_
  walk_nrm
  refine gw_ctl T rfl (fun _ => stepG_region_end) ?_
  refine gw_ctl T rfl (fun _ => stepG_seq) ?_
  refine gw_ctl T rfl (fun _ => stepG_cond (t := false) rfl) ?_
  simp only [if_false, Bool.false_eq_true, ↓reduceIte]
  refine gw_ctl T rfl (fun _ => stepG_exit rfl) ?_
  refine gw_ctl T rfl (fun _ => stepG_seq) ?_
  refine gw_ctl T rfl (fun _ => stepG_region) ?_
  simp only [List.size_toArray, List.length_cons, List.length_nil, Nat.reduceAdd, Nat.zero_add, List.range, List.range.loop]
  refine gw_ld T hrl hF (.pointer (some ⟨N + 3, 0, none⟩)) rfl rfl (by k_ne) (fun w hF => by have hc := hF.1.pb; go_simp) (fun w hF => (fun h => dm1 hB hSh (b := N + 4 + n) (by omega) h) (fun e he => by have hc := hF.1.pb; have hm := mem_listed he; simp [go_sem, hc] at hm; exact hm)) ?_
  walk_nrm
  refine g_give (n := 0) T (F := fun w => MF W0 N n k n n w ∧ WgLive 127 (N + 6 + n) w) (t := 0) hrl hF (fun w h => h.1.str) (fun w h => h.1.row 0 (by omega))
    (fun w h es he => dmr hB hSh fun e hm => (he e hm).elim (fun e => ⟨⟨N + 3, 0, none⟩, by simp only []; omega, e⟩) (fun e => ⟨⟨N + 2, 0, none⟩, by simp only []; omega, e⟩)) (by omega) rfl rfl (by k_ne) rfl rfl rfl ?_
  intro g w₁ hst hrun hcome hr
  have hF1 := hrl _ _ hF hr
  refine ⟨hrun, g, hst w₁, 3 + 4 + 13, ?_⟩
  refine hcome tm_ ?_
  walk_nrm
  refine gw_ctl T rfl (fun _ => stepG_region_end) ?_
  refine gw_ctl T rfl (fun _ => stepG_seq) ?_
  refine gw_ctl T rfl (fun _ => stepG_region) ?_
  simp only [List.size_toArray, List.length_cons, List.length_nil, Nat.reduceAdd, Nat.zero_add, List.range, List.range.loop]
  refine gw_call T rfl rfl (by k_ne) rfl wgLib.f_wait (nm_wait lk) rfl ?_
  walk_nrmf waitFn
  refine goes_weaken (fun _ _ h => h) (fun _ _ _ h => h) (fun _ _ x => x.mono fun g w hx => ?_) (waitStart (Y := (lay N n k m0 Sh B)) (L := lk) (F := MF W0 N n k n n) wgLib (fun w w' r h => h.rely r) w₁ hF1)
  exact ⟨_, rfl, rfl, hx⟩

set_option maxRecDepth 100000 in
set_option maxHeartbeats 2000000 in
/-- One is started. -/
theorem spawn_succ (hm : 0 < m0) (hj : j + (r + 1) = n) (hn : n < 2147483648) (hk : k < 9223372036854775807) (hx2 : n * k < 9223372036854775807) (hB : N + 7 + n + n ≤ B) (hSh : ∀ a : Addr, N ≤ a.block → ¬ Sh (.cell a))
    (IH : ∀ (j0 j1 j8 j9 j10 j11 j12 j13 j14 j15 j16 j17 j18 j19 j20 j21 j22 j23 j24 j27 j28 j29 j30 j31 j32 j33 j34 j35 : Value) (w : World), MF W0 N n k (j + 1) (j + 1) w ∧ WgLive 127 (N + 6 + n) w → Spawns (lay N n k m0 Sh B) (AnchX W0 N n k m0 B Sh cs) r (G ((base 24).at ⟨#[j0, j1, .pointer (some ⟨N, 0, none⟩), .pointer (some ⟨N + 1, 0, none⟩), .int .i64 0, .pointer (some ⟨N + 4 + n, 0, none⟩), .pointer (some ⟨N + 5 + n, 0, none⟩), .pointer (some ⟨N + 6 + n, 0, none⟩), j8, j9, j10, j11, j12, j13, j14, j15, j16, j17, j18, j19, j20, j21, j22, j23, j24, .int .i64 n, .int .i64 (j + 1 : Nat), j27, j28, j29, j30, j31, j32, j33, j34, j35], []⟩ [.code L24, .inLoop L24, .inBlock 0, .code E24]) cs) w)
    (j0 j1 j8 j9 j10 j11 j12 j13 j14 j15 j16 j17 j18 j19 j20 j21 j22 j23 j24 j27 j28 j29 j30 j31 j32 j33 j34 j35 : Value) (w : World) (hF : MF W0 N n k j j w ∧ WgLive 127 (N + 6 + n) w) :
    Spawns (lay N n k m0 Sh B) (AnchX W0 N n k m0 B Sh cs) (r + 1) (G ((base 24).at ⟨#[j0, j1, .pointer (some ⟨N, 0, none⟩), .pointer (some ⟨N + 1, 0, none⟩), .int .i64 0, .pointer (some ⟨N + 4 + n, 0, none⟩), .pointer (some ⟨N + 5 + n, 0, none⟩), .pointer (some ⟨N + 6 + n, 0, none⟩), j8, j9, j10, j11, j12, j13, j14, j15, j16, j17, j18, j19, j20, j21, j22, j23, j24, .int .i64 n, .int .i64 j, j27, j28, j29, j30, j31, j32, j33, j34, j35], []⟩ [.code L24, .inLoop L24, .inBlock 0, .code E24]) cs) w := by
  have T : Terms (RM (lay N n k m0 Sh B)) (DM (lay N n k m0 Sh B) j) := tm_
  have hrl : ∀ a b, MF W0 N n k j j a ∧ WgLive 127 (N + 6 + n) a → RM (lay N n k m0 Sh B) a b → MF W0 N n k j j b ∧ WgLive 127 (N + 6 + n) b := fun _ _ h r => ⟨h.1.rely r, r.live h.2⟩
  have q : decide ((j : Int) < (n : Int)) = true := decide_eq_true (by omega)
  have q2 : j < n := by omega
  have q3 : IntKind.i64.wrap ((j : Int) + 1) = (j : Int) + 1 := by rw [IntKind.wrap_i64]; omega
  have e : (lay N n k m0 Sh B).n - (r + 1) = j := by show n - (r + 1) = j; omega
  have e' : n - r = j + 1 := by omega
  refine ⟨12 + 1 + 5 + 12, ?_⟩
  rw [lay_P, e]
  simp only [L24, X24, body24, Try.f24, Option.getD_some]
  refine gw_ctl T rfl (fun _ => stepG_seq) ?_
  refine gw_ctl T rfl (fun _ => stepG_region) ?_
  simp only [List.size_toArray, List.length_cons, List.length_nil, Nat.reduceAdd, Nat.zero_add, List.range, List.range.loop]
  refine gw_val T (.bool true) rfl rfl (by k_ne) (fun _ => by go_simp) (fun _ => by simp [go_sem, *]) ?_
  walk_nrm
  refine gw_ctl T rfl (fun _ => stepG_region_end) ?_
  refine gw_ctl T rfl (fun _ => stepG_seq) ?_
  refine gw_ctl T rfl (fun _ => stepG_cond (t := true) rfl) ?_
  simp only [if_true]
  refine gw_ctl T rfl (fun _ => stepG_skip) ?_
  refine gw_ctl T rfl (fun _ => stepG_seq) ?_
  refine gw_ctl T rfl (fun _ => stepG_block) ?_
  refine gw_ctl T rfl (fun _ => stepG_seq) ?_
  refine gw_ctl T rfl (fun _ => stepG_region) ?_
  simp only [List.size_toArray, List.length_cons, List.length_nil, Nat.reduceAdd, Nat.zero_add, List.range, List.range.loop]
  refine gw_val T (.int .i64 j) rfl rfl (by k_ne) (fun _ => by go_simp) (fun _ => by simp [go_sem]) ?_
  walk_nrm
  refine gw_mv hrl hF (f := fun w => w.alloc (.cells #[.int .i64 0] 3)) (v := fun _ => .pointer (some ⟨N + 7 + n + j, 0, none⟩)) rfl rfl (by k_ne) (fun w h => by have hs := h.1.size; go_simp) (fun w h => ⟨fun b hb => Below.heap_alloc _ _ _ (by have := h.1.size; simp only [lay] at hb; omega), fun e he => by have hm := mem_listed he; simp [go_sem] at hm⟩) ?_
  intro w₁ _ hF1
  have hM2 := hF1.1.alloc (by omega) (.cells #[.int .i64 0] 3)
  have hb2 : (w₁.alloc (.cells #[.int .i64 0] 3)).heap[N + 7 + n + j]? = some (.cells #[.int .i64 0] 3) := al_new (by rw [hF1.1.size]) _
  have hl2 : WgLive 127 (N + 6 + n) (w₁.alloc (.cells #[.int .i64 0] 3)) := live_of_block (L := (lay N n k m0 Sh B)) (Below.heap_alloc _ _ _ (by rw [hF1.1.size]; simp only [lay]; omega)) hF1.2
  generalize w₁.alloc (.cells #[.int .i64 0] 3) = w₂ at hM2 hb2 hl2 ⊢
  clear hF1 hF hrl
  have nv : ¬ Var (lay N n k m0 Sh B) (N + 7 + n + j) := by
    rintro (e | e | ⟨t, ht, e⟩)
    · simp only [lay] at e; omega
    · simp only [lay] at e; omega
    · simp only [lay] at ht e; omega
  have hrl : ∀ a b, (MF W0 N n k j (j + 1) a ∧ a.heap[N + 7 + n + j]? = some (.cells #[.int .i64 0] 3) ∧ WgLive 127 (N + 6 + n) a) → RM (lay N n k m0 Sh B) a b → (MF W0 N n k j (j + 1) b ∧ b.heap[N + 7 + n + j]? = some (.cells #[.int .i64 0] 3) ∧ WgLive 127 (N + 6 + n) b) :=
    fun _ _ h r => ⟨h.1.rely r, (r.block _ nv).trans h.2.1, r.live h.2.2⟩
  walk_nrm
  refine gw_st hrl ⟨hM2, hb2, hl2⟩ (f := fun w => w.setCell ⟨N + 7 + n + j, 0, none⟩ (.int .i64 j)) rfl rfl (by k_ne)
    (fun w hF => by have hc := cell_of (i := 0) hF.2.1 rfl; have hz := fz_of (i := 0) hF.2.1; go_simp)
    (fun w hF => ⟨fun b hb => Below.heap_setCell _ _ _ _ (by simp only [lay] at hb; show b ≠ N + 7 + n + j; omega), fun e he => by
      have hc := cell_of (i := 0) hF.2.1 rfl
      have hm := mem_listed he
      simp [go_sem, hc] at hm
      rw [hm.2]
      exact evm hB hSh (by simp only []; omega) (fun _ q hq h => by
        obtain ⟨a, e, ha⟩ := h
        cases e
        simp only [lay] at ha
        omega)⟩) ?_
  intro w₃ _ hF3
  have hM4 := hF3.1.fill (cell_of (i := 0) hF3.2.1 rfl)
  have hl4 : WgLive 127 (N + 6 + n) (w₃.setCell ⟨N + 7 + n + j, 0, none⟩ (.int .i64 j)) := live_of_block (L := (lay N n k m0 Sh B)) (Below.heap_setCell _ _ _ _ (by simp only [lay]; omega)) hF3.2.2
  generalize w₃.setCell ⟨N + 7 + n + j, 0, none⟩ (.int .i64 j) = w₄ at hM4 hl4 ⊢
  clear hF3 hM2 hb2 hl2 hrl
  walk_nrm
  refine gw_ctl T rfl (fun _ => stepG_region_end) ?_
  refine gw_ctl T rfl (fun _ => stepG_seq) ?_
  refine gw_ctl T rfl (fun _ => stepG_region) ?_
  simp only [List.size_toArray, List.length_cons, List.length_nil, Nat.reduceAdd, Nat.zero_add, List.range, List.range.loop]
  refine gw_call T rfl rfl (by k_ne) rfl wgLib.f_add (nm_add lk) rfl ?_
  walk_nrmf addFn
  refine Go.Proofs.Ytejedbknpjffkaa.Rl.addPos (Y := (lay N n k m0 Sh B)) (L := lk) (F := MF W0 N n k (j + 1) (j + 1)) (mT := 0 + 3) rfl wgLib (geo hm (by omega) hn hx2 hB hSh) rfl (fun w w' r h => h.rely r) (fun w hF hl => ?_) w₄ ⟨hM4, hl4⟩
  clear hM4 hl4
  walk_nrm
  refine gw_ctl T rfl (fun _ => stepG_region_end) ?_
  refine gw_ctl T rfl (fun _ => stepG_region) ?_
  simp only [List.size_toArray, List.length_cons, List.length_nil, Nat.reduceAdd, Nat.zero_add, List.range, List.range.loop]
  refine gw_val T (.func (.func 60) #[] #[.pointer (some ⟨N + 6 + n, 0, none⟩), .pointer (some ⟨N + 1, 0, none⟩), .pointer (some ⟨N + 4 + n, 0, none⟩), .pointer (some ⟨N + 7 + n + j, 0, none⟩), .pointer (some ⟨N + 5 + n, 0, none⟩), .pointer (some ⟨N, 0, none⟩)]) rfl rfl (by k_ne) (fun _ => by go_simp) (fun _ => by simp [go_sem]) ?_
  walk_nrm
  refine Goes.stop (fun w₁ h₁ => ?_)
  have hM5 := hF.rely h₁
  have hl5 := h₁.live hl
  refine ⟨rfl, _, born Try.prog (call60 N n j), stepG_spawn0 rfl rfl (by k_ne) (d := call60 N n j) (f := .func 60) (w' := w₁) (by simp [go_sem, execOp, Act.eval, call60]) rfl (by simp [go_sem, execOp, Act.eval]), birth hB (by omega) hn hk hx2 (hM5.ck (by omega) hl5), ?_⟩
  refine spawns_back (c := 7) (fun {Stop z} h => ?_) (IH j0 j1 (.pointer (some ⟨N + 7 + n + j, 0, none⟩)) j9 j10 j11 j12 j13 j14 j15 j16 j17 j18 j19 j20 j21 j22 j23 j24 (.bool true) (.int .i64 j) (.tuple #[]) (.func (.func 60) #[] #[.pointer (some ⟨N + 6 + n, 0, none⟩), .pointer (some ⟨N + 1, 0, none⟩), .pointer (some ⟨N + 4 + n, 0, none⟩), .pointer (some ⟨N + 7 + n + j, 0, none⟩), .pointer (some ⟨N + 5 + n, 0, none⟩), .pointer (some ⟨N, 0, none⟩)]) (.int .i64 (j + 1 : Nat)) j32 j33 j34 j35 w₁ ⟨hM5, hl5⟩)
  simp only [L24, E24, X24, body24, Try.f24, Option.getD_some] at h
  have T : Terms (RM (lay N n k m0 Sh B)) (DM (lay N n k m0 Sh B) (n - r)) := tm_
  walk_nrm
  refine gw_ctl T rfl (fun _ => stepG_region_end) ?_
  refine gw_ctl T rfl (fun _ => stepG_inBlock) ?_
  refine gw_ctl T rfl (fun _ => stepG_region) ?_
  simp only [List.size_toArray, List.length_cons, List.length_nil, Nat.reduceAdd, Nat.zero_add, List.range, List.range.loop]
  refine gw_val T (.int .i64 (j + 1 : Nat)) rfl rfl (by k_ne) (fun _ => by go_simp) (fun _ => by simp [go_sem, *]) ?_
  walk_nrm
  refine gw_val T (.int .i64 (j + 1 : Nat)) rfl rfl (by k_ne) (fun _ => by go_simp) (fun _ => by simp [go_sem]) ?_
  walk_nrm
  refine gw_ctl T rfl (fun _ => stepG_region_end) ?_
  refine gw_ctl T rfl (fun _ => stepG_inLoop) ?_
  exact h

/-- r are still to be started. -/
theorem spawns (hm : 0 < m0) (h1 : 1 ≤ n) (hn : n < 2147483648) (hk : k < 9223372036854775807) (hx2 : n * k < 9223372036854775807) (hB : N + 7 + n + n ≤ B) (hSh : ∀ a : Addr, N ≤ a.block → ¬ Sh (.cell a)) :
    ∀ (r j : Nat), j + r = n → ∀ (j0 j1 j8 j9 j10 j11 j12 j13 j14 j15 j16 j17 j18 j19 j20 j21 j22 j23 j24 j27 j28 j29 j30 j31 j32 j33 j34 j35 : Value) (w : World), MF W0 N n k j j w ∧ WgLive 127 (N + 6 + n) w → Spawns (lay N n k m0 Sh B) (AnchX W0 N n k m0 B Sh cs) r (G ((base 24).at ⟨#[j0, j1, .pointer (some ⟨N, 0, none⟩), .pointer (some ⟨N + 1, 0, none⟩), .int .i64 0, .pointer (some ⟨N + 4 + n, 0, none⟩), .pointer (some ⟨N + 5 + n, 0, none⟩), .pointer (some ⟨N + 6 + n, 0, none⟩), j8, j9, j10, j11, j12, j13, j14, j15, j16, j17, j18, j19, j20, j21, j22, j23, j24, .int .i64 n, .int .i64 j, j27, j28, j29, j30, j31, j32, j33, j34, j35], []⟩ [.code L24, .inLoop L24, .inBlock 0, .code E24]) cs) w
  | 0, j, e, j0, j1, j8, j9, j10, j11, j12, j13, j14, j15, j16, j17, j18, j19, j20, j21, j22, j23, j24, j27, j28, j29, j30, j31, j32, j33, j34, j35, w, hF => by
    obtain rfl : j = n := by omega
    exact spawn_end h1 hn hB hSh j0 j1 j8 j9 j10 j11 j12 j13 j14 j15 j16 j17 j18 j19 j20 j21 j22 j23 j24 j27 j28 j29 j30 j31 j32 j33 j34 j35 w hF
  | r + 1, j, e, j0, j1, j8, j9, j10, j11, j12, j13, j14, j15, j16, j17, j18, j19, j20, j21, j22, j23, j24, j27, j28, j29, j30, j31, j32, j33, j34, j35, w, hF => spawn_succ hm e hn hk hx2 hB hSh (spawns hm h1 hn hk hx2 hB hSh r (j + 1) (by omega)) j0 j1 j8 j9 j10 j11 j12 j13 j14 j15 j16 j17 j18 j19 j20 j21 j22 j23 j24 j27 j28 j29 j30 j31 j32 j33 j34 j35 w hF

/-- Behind the group's acquire: to where Wait comes back. -/
noncomputable def acq24 (T : Array Value) (cs : List Frame) : Goroutine := G ((base 24).at ((⟨T, []⟩ : Act).put ((O13[0]?).bind (·.dst)) (.tuple #[])) (.inRegion O13 [] :: [.code E14])) cs
def BackX (W0 : World) (N n k m0 B : Nat) (Sh : Loc → Prop) (cs : List Frame) (g : Goroutine) (w : World) : Prop :=
  ∃ (T : Array Value) (m : Nat), T.size = 36 ∧ T[6]? = some (.pointer (some ⟨N + 5 + n, 0, none⟩)) ∧ MF W0 N n k n n w ∧
    Goes Try.prog true (RM (lay N n k m0 Sh B)) Go.ConcR.DC0 (fun g' w' => g' = acq24 T cs ∧ MF W0 N n k n n w' ∧ WgLive 127 (N + 6 + n) w') m g w

theorem anch_runs {g : Goroutine} {w : World} (h : AnchX W0 N n k m0 B Sh cs g w) : g.status = .running := by
  obtain ⟨T, _, _, T', rfl, _⟩ := h
  rfl

theorem anch_goes (hm : 0 < m0) (h1 : 1 ≤ n) (hn : n < 2147483648) (hx2 : n * k < 9223372036854775807) (hB : N + 7 + n + n ≤ B) (hSh : ∀ a : Addr, N ≤ a.block → ¬ Sh (.cell a)) (g : Goroutine) (w : World) (h : AnchX W0 N n k m0 B Sh cs g w) :
    ∃ m, Goes Try.prog true (RM (lay N n k m0 Sh B)) (DM (lay N n k m0 Sh B) n) (AtW1 (lay N n k m0 Sh B) (AnchX W0 N n k m0 B Sh cs) (BackX W0 N n k m0 B Sh cs)) m g w := by
  obtain ⟨T, h1', h2', hA⟩ := h
  obtain ⟨m, hG⟩ := Go.Proofs.Ytejedbknpjffkaa.Rl.waitRound (Y := (lay N n k m0 Sh B)) (L := lk) (F := MF W0 N n k n n) (Back := BackX W0 N n k m0 B Sh cs) (acqBack := acq24 T cs) rfl wgLib (geo hm h1 hn hx2 hB hSh) rfl (fun w w' r h => h.rely r) rfl
    (fun g w m hF _ hG => ⟨T, m, h1', h2', hF, hG⟩) g w hA
  exact ⟨m, goes_weaken (fun _ _ h => h) (fun _ _ _ h => h) (fun g w x => x.mono fun g w hx => ⟨T, h1', h2', hx⟩) hG⟩
end
end Go.Proofs.Ytejedbknpjffkaa.Rl
