/- GOROUTINE 0 BESIDE GOROUTINES THAT ONLY LEAVE: laws of one step of its walk; communications on channels with room for one. -/
import Derived.Test.YtejedbknpjffkaaRlU
namespace Go.Proofs.Ytejedbknpjffkaa.Rl
open Go Go.Conc

@[go_sem] theorem at_cell (w : World) (d : Nat) (a : Addr) : (w.at d).cell? a = w.cell? a := rfl
@[go_sem] theorem at_frozen (w : World) (d : Nat) (a : Addr) : (w.at d).frozen? a = w.frozen? a := rfl
@[go_sem] theorem at_size (w : World) (d : Nat) : (w.at d).heap.size = w.heap.size := rfl
theorem at_alloc (w : World) (d : Nat) (o : Obj) : (w.at d).alloc o = (w.alloc o).at d := rfl
theorem at_setCell (w : World) (d : Nat) (a : Addr) (v : Value) : (w.at d).setCell a v = (w.setCell a v).at d := rfl

section
variable {P : Program} {Fin : Machine → Trace → Prop} {Sh : Loc → Prop} {B : Nat} {W W' : World}

theorem t_ctl {g g' : Goroutine} (hs : g.status = .running) (h : ∀ w, stepG P true g w = .go g' w #[]) (hg : To P Fin Sh B g' W) : To P Fin Sh B g W :=
  To.go hs (fun d => ⟨W.at d, #[], h _, ⟨d, rfl⟩, by simp⟩) hg

variable {b : Frame} {a : Act} {k : List Item} {cs : List Frame} {ops : Array Oper} {i : Nat} {rest : List Nat} {o : Oper}

theorem t_val (v : Value) (ho : ops[i]? = some o) (hw : Region.wanted o (yielded ops a.tmps) = true) (hk : b.kind ≠ .early)
    (hr : ∀ w, (execOp a.eval o).run P w = .ok (.value v) w) (he : ∀ w, (execOp a.eval o).events P w #[] = #[])
    (hg : To P Fin Sh B (G (b.at (a.put o.dst v) (.inRegion ops rest :: k)) cs) W) : To P Fin Sh B (G (b.at a (.inRegion ops (i :: rest) :: k)) cs) W :=
  t_ctl rfl (fun w => by rw [stepG_value ho hw hk (hr w)]; unfold listed; rw [he w, seen_none]) hg

/-- An operation that yields a value; the world behind it is W'. -/
theorem t_mv (W' : World) (v : Value) (ho : ops[i]? = some o) (hw : Region.wanted o (yielded ops a.tmps) = true) (hk : b.kind ≠ .early)
    (hr : ∀ d, (execOp a.eval o).run P (W.at d) = .ok (.value v) (W'.at d)) (he : ∀ d, ∀ e ∈ (execOp a.eval o).events P (W.at d) #[], EvL Sh B e)
    (hg : To P Fin Sh B (G (b.at (a.put o.dst v) (.inRegion ops rest :: k)) cs) W') : To P Fin Sh B (G (b.at a (.inRegion ops (i :: rest) :: k)) cs) W :=
  To.go rfl (fun d => ⟨W'.at d, _, stepG_value ho hw hk (hr d), ⟨d, rfl⟩, fun e hm => he d e (mem_listed hm)⟩) hg

/-- .. nothing. -/
theorem t_st (W' : World) (ho : ops[i]? = some o) (hw : Region.wanted o (yielded ops a.tmps) = true) (hk : b.kind ≠ .early)
    (hr : ∀ d, (execOp a.eval o).run P (W.at d) = .ok .skip (W'.at d)) (he : ∀ d, ∀ e ∈ (execOp a.eval o).events P (W.at d) #[], EvL Sh B e)
    (hg : To P Fin Sh B (G (b.at (a.put o.dst undef) (.inRegion ops rest :: k)) cs) W') : To P Fin Sh B (G (b.at a (.inRegion ops (i :: rest) :: k)) cs) W :=
  To.go rfl (fun d => ⟨W'.at d, _, stepG_none ho hw hk (hr d), ⟨d, rfl⟩, fun e hm => he d e (mem_listed hm)⟩) hg

theorem t_call {f : FuncId} {fn : Func} {c : Code} {args : Array Operand} {ats : Array TypeId}
    (ho : ops[i]? = some o) (hw : Region.wanted o (yielded ops a.tmps) = true) (hk : b.kind ≠ .early) (hop : o.op = .call { callee := .value (.func f), args, argTypes := ats })
    (hf : P.funcs[f]? = some fn) (hname : (fn.name == "runtime.NumGoroutine") = false) (hb : fn.body = some c)
    (hg : To P Fin Sh B (G ((base f).at { tmps := args.map a.eval ++ Array.replicate (fn.ntmps - (args.map a.eval).size) undef, defers := [] } [.code c]) (b.at a (.inRegion ops (i :: rest) :: k) :: cs)) W) :
    To P Fin Sh B (G (b.at a (.inRegion ops (i :: rest) :: k)) cs) W := by
  refine To.go rfl (fun d => ⟨W.at d, #[], ?_, ⟨d, rfl⟩, by simp⟩) hg
  have hb' : fn.body.isNone = false := by rw [hb]; rfl
  rw [stepG_enter ho hw hk (run_call_body hop hf hname hb'), enter_at _ hf hb]
  have : listed P b.fn a o (W.at d) = #[] := by unfold listed; rw [events_call_body hop hf hname hb']; exact seen_none P _
  rw [this]

variable {b₀ : Frame} {a₀ : Act} {todo : List Item} {fn : Func}
theorem t_leave1 {t : Tmp} (hn : b.kind = .normal) (hd : a.defers = []) (hf : P.funcs[b.fn]? = some fn) (hr : fn.results = #[.tmp t])
    (hg : To P Fin Sh B (G (b₀.at (a₀.put ((ops[i]?).bind (·.dst)) (a.tmps.getD t undef)) (.inRegion ops rest :: k)) cs) W) :
    To P Fin Sh B (G { b.at a todo with mode := .returning } (b₀.at a₀ (.inRegion ops (i :: rest) :: k) :: cs)) W :=
  t_ctl rfl (fun w => by rw [stepG_leave hn hd hf (results_tmp hr _ P w) (events_results_tmp hr _ _), Frame.finish_at]) hg

/-- The draw. -/
theorem t_draw {id : Nat} (hm : P.follows .mixedOrders = true) (hg : ∀ t, To P Fin Sh B (G (b.at a (.inRegion ops (Region.linearise .any ops t) :: k)) cs) W) :
    To P Fin Sh B (G (b.at a (.code (.region id ops true) :: k)) cs) W := by
  have key : ∀ m t, Sit P Sh B (G (b.at a (.code (.region id ops true) :: k)) cs) W m t → ∃ N m' t', runNT P N m t = (.next m', t') ∧ Fin m' t' := by
    refine To.walk (Stop := fun g w => ∃ t, g = G (b.at a (.inRegion ops (Region.linearise .any ops t) :: k)) cs ∧ AtRel W w) (n := 1) (Goes.step rfl fun w₁ h₁ => ?_) ?_
    · obtain ⟨d, rfl⟩ := h₁
      rw [stepG_region_draw]
      simp only [Region.schedule, hm, Bool.true_or, if_true]
      exact ⟨by simp [DL], Goes.stop fun w₂ h₂ => ⟨_, rfl, atRel_trans _ _ _ ⟨_, rfl⟩ h₂⟩⟩
    · rintro g w ⟨t, rfl, hr⟩
      exact (hg t).rel hr
  exact key

theorem set_comm {w : World} {c cap s r : Nat} {buf : Array Value} {d : Nat} : (w.at d).setChan c cap buf false s r false = (w.setChan c cap buf false s r false).at d := rfl

/-- A try to send, where there is room. -/
theorem t_give {g g₂ : Goroutine} {c s r : Nat} (hs : g.status = .running) (hst : ∀ w, stepG P true g w = .comm g₂ #[scase c U U] false .select w #[]) (hc : W.heap[c]? = some (.chan 1 #[] false s r false)) (hB : c < B)
    (hg : To P Fin Sh B (Go.Conc.served g₂ UT) (W.setChan c 1 #[U] false (s + 1) r false)) : To P Fin Sh B g W := by
  refine To.comm hs (fun gs sl d h0 hp => ⟨(W.setChan c 1 #[U] false (s + 1) r false).at d, #[{ g := 0, fn := g₂.frame.fn, pos := g₂.frame.place, act := .send c s }, { g := 0, fn := g₂.frame.fn, pos := g₂.frame.place, act := .sendDone c s }], ?_, ⟨d, rfl⟩, fun op hop => ?_⟩) hg
  · have := crowd_send_room (P := P) (sl := sl) (w := W.at d) (i := 0) h0 (hst _) (cap := 1) (buf := #[]) (s := s) (r := r) (tm := false) hc (by simp) (hp _ _)
    rw [ofEvents_none, finishComm_give] at this
    rw [this]
    simp [set_comm]
  · simp only [List.mem_toArray, List.mem_cons, List.not_mem_nil, or_false] at hop
    rcases hop with rfl | rfl
    · exact ⟨rfl, hB, rfl, fun _ _ => rfl⟩
    · exact ⟨rfl, hB, rfl, fun _ _ => rfl⟩

def UD : Value := .tuple #[goInt (-1), .bool false]
theorem finishComm_full (P : Program) (g : Goroutine) (c : Nat) : g.finishComm P #[scase c U U] .select (-1) undef false = Go.Conc.served g UD := by
  unfold Goroutine.finishComm Go.Conc.served UD
  simp [commResult, scase]
/-- .. where there is none. -/
theorem t_full {g g₂ : Goroutine} {c s r : Nat} (hs : g.status = .running) (hst : ∀ w, stepG P true g w = .comm g₂ #[scase c U U] false .select w #[]) (hc : W.heap[c]? = some (.chan 1 #[U] false s r false))
    (hg : To P Fin Sh B (Go.Conc.served g₂ UD) W) : To P Fin Sh B g W := by
  refine To.comm hs (fun gs sl d h0 hp => ⟨W.at d, #[], ?_, ⟨d, rfl⟩, by simp⟩) hg
  have := crowd_default (P := P) (sl := sl) (w := W.at d) (i := 0) h0 (hst _) (fun cc hcc => by
    simp only [List.mem_toArray, List.mem_singleton] at hcc
    subst hcc
    exact ways_send_none (w₁ := W.at d) hc (by simp) (hp _ _))
  rw [ofEvents_none, finishComm_full] at this
  exact this

/-- A receive, where there is one. -/
theorem t_block {g g₂ : Goroutine} {c s r : Nat} (hs : g.status = .running) (hst : ∀ w, stepG P true g w = .comm g₂ #[rcase c U] true (.recv false) w #[]) (hc : W.heap[c]? = some (.chan 1 #[U] false s r false)) (hB : c < B)
    (hg : To P Fin Sh B (Go.Conc.served g₂ U) (W.setChan c 1 #[] false s (r + 1) false)) : To P Fin Sh B g W := by
  refine To.comm hs (fun gs sl d h0 hp => ⟨(W.setChan c 1 #[] false s (r + 1) false).at d, #[{ g := 0, fn := g₂.frame.fn, pos := g₂.frame.place, act := .recv c r 1 }, { g := 0, fn := g₂.frame.fn, pos := g₂.frame.place, act := .recvDone c r }], ?_, ⟨d, rfl⟩, fun op hop => ?_⟩) hg
  · have := crowd_recv_buf (P := P) (sl := sl) (w := W.at d) (i := 0) h0 (hst _) (cap := 1) (buf := #[U]) (s := s) (r := r) (tm := false) hc (by simp) (hp _ _)
    rw [ofEvents_none, finishComm_recv] at this
    rw [this]
    simp [set_comm, recvd]
  · simp only [List.mem_toArray, List.mem_cons, List.not_mem_nil, or_false] at hop
    rcases hop with rfl | rfl
    · exact ⟨rfl, hB, rfl, fun _ _ => rfl⟩
    · exact ⟨rfl, hB, rfl, fun _ _ => rfl⟩

/-- A try to receive, where there is one. -/
def UR : Value := .tuple #[goInt 0, .bool true, U]
theorem finishComm_take (P : Program) (g : Goroutine) (c : Nat) : g.finishComm P #[rcase c U] .select 0 U true = Go.Conc.served g UR := by
  unfold Goroutine.finishComm Go.Conc.served UR
  simp [commResult, rcase]
theorem t_take {g g₂ : Goroutine} {c s r : Nat} (hs : g.status = .running) (hst : ∀ w, stepG P true g w = .comm g₂ #[rcase c U] false .select w #[]) (hc : W.heap[c]? = some (.chan 1 #[U] false s r false)) (hB : c < B)
    (hg : To P Fin Sh B (Go.Conc.served g₂ UR) (W.setChan c 1 #[] false s (r + 1) false)) : To P Fin Sh B g W := by
  refine To.comm hs (fun gs sl d h0 hp => ⟨(W.setChan c 1 #[] false s (r + 1) false).at d, #[{ g := 0, fn := g₂.frame.fn, pos := g₂.frame.place, act := .recv c r 1 }, { g := 0, fn := g₂.frame.fn, pos := g₂.frame.place, act := .recvDone c r }], ?_, ⟨d, rfl⟩, fun op hop => ?_⟩) hg
  · have := crowd_recv_buf (P := P) (sl := sl) (w := W.at d) (i := 0) h0 (hst _) (cap := 1) (buf := #[U]) (s := s) (r := r) (tm := false) hc (by simp) (hp _ _)
    have h1 : ((#[U] : Array Value).getD 0 undef) = U := rfl
    rw [ofEvents_none, h1, finishComm_take] at this
    rw [this]
    simp [set_comm]
  · simp only [List.mem_toArray, List.mem_cons, List.not_mem_nil, or_false] at hop
    rcases hop with rfl | rfl
    · exact ⟨rfl, hB, rfl, fun _ _ => rfl⟩
    · exact ⟨rfl, hB, rfl, fun _ _ => rfl⟩

/-- .. where there is none. -/
def UN : Value := .tuple #[goInt (-1), .bool false, U]
theorem finishComm_none (P : Program) (g : Goroutine) (c : Nat) : g.finishComm P #[rcase c U] .select (-1) undef false = Go.Conc.served g UN := by
  unfold Goroutine.finishComm Go.Conc.served UN
  simp [commResult, rcase]
theorem t_none {g g₂ : Goroutine} {c s r : Nat} (hs : g.status = .running) (hst : ∀ w, stepG P true g w = .comm g₂ #[rcase c U] false .select w #[]) (hc : W.heap[c]? = some (.chan 1 #[] false s r false))
    (hg : To P Fin Sh B (Go.Conc.served g₂ UN) W) : To P Fin Sh B g W := by
  refine To.comm hs (fun gs sl d h0 hp => ⟨W.at d, #[], ?_, ⟨d, rfl⟩, by simp⟩) hg
  have := crowd_default (P := P) (sl := sl) (w := W.at d) (i := 0) h0 (hst _) (fun cc hcc => by
    simp only [List.mem_toArray, List.mem_singleton] at hcc
    subst hcc
    exact ways_recv_none (w₁ := W.at d) hc (hp _ _))
  rw [ofEvents_none, finishComm_none] at this
  exact this
end
end Go.Proofs.Ytejedbknpjffkaa.Rl
