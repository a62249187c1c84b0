/- THE RELAY: where each goroutine stands. Workers hand one cell round by channels of room one; each says Done of a group at its end; the starter starts them, gives the first, waits for the group. -/
import Derived.Test.YtejedbknpjffkaaRlT
import Derived.Conc.CrowdComm
namespace Go.Proofs.Ytejedbknpjffkaa.Rl
open Go Go.Conc
open Go.ConcN (ShN WgLive RelBy upd upd_same upd_ne sumTo sumTo_upd)
open Go.ConcR (KK wgBlock WgAt stA smA rd wr mk)

/-- The layout: the program, the group's type and block, the handed cell's block, the workers' number, their rounds, the goroutines ahead of them, the channels' blocks, which blocks each worker reads, the heap's size when the first is started (worker t's own variable lies at H0 + t). -/
structure Lay where
  P : Program
  ty : TypeId
  Wg : Nat
  Sm : Nat
  n : Nat
  k : Nat
  m0 : Nat
  ch : Nat → Nat
  Kb : Nat → Nat → Prop
  H0 : Nat
  Shun : Loc → Prop
  B : Nat

def Lay.sumA (L : Lay) : Addr := ⟨L.Sm, 0, none⟩
def Lay.still (L : Lay) (t : Nat) (l : Loc) : Prop := ∃ a, l = .cell a ∧ L.Kb t a.block
def Lay.tl (L : Lay) : TLay := { Wg := L.Wg, sumL := .cell L.sumA, Still := L.still, Shun := L.Shun, B := L.B, m0 := L.m0 }

structure Geo (L : Lay) : Prop where
  m0 : 0 < L.m0
  n1 : 1 ≤ L.n
  n2 : L.n < 2147483648
  k2 : L.n * L.k < 9223372036854775807
  hWg : L.Wg < L.H0
  hSm : L.Sm < L.H0
  hch : ∀ t, t < L.n → L.ch t < L.H0
  hWS : L.Wg ≠ L.Sm
  hcW : ∀ t, t < L.n → L.ch t ≠ L.Wg
  hcS : ∀ t, t < L.n → L.ch t ≠ L.Sm
  inj : ∀ t t', t < L.n → t' < L.n → L.ch t = L.ch t' → t = t'
  kb : ∀ t b, t < L.n → L.Kb t b → b < L.H0 + t + 1 ∧ b ≠ L.Wg ∧ b ≠ L.Sm ∧ ∀ t', t' < L.n → b ≠ L.ch t'
  shS : ¬ L.Shun (.cell L.sumA)
  shK : ∀ t l, L.still t l → ¬ L.Shun l
  kbS : ∀ t b, L.Kb t b → b ≠ L.Wg ∧ b ≠ L.Sm
  hB : L.H0 ≤ L.B

def U : Value := .agg #[]

section
variable (L : Lay)

/-! ### what each suffers, what each does -/

def RLive (w w₁ : World) : Prop := WgLive L.ty L.Wg w → WgLive L.ty L.Wg w₁
structure RWk (t : Nat) (w w₁ : World) : Prop where
  kb : ∀ b, L.Kb t b → w₁.heap[b]? = w.heap[b]?
  live : WgLive L.ty L.Wg w → WgLive L.ty L.Wg w₁
structure RH (t : Nat) (w w₁ : World) : Prop extends RWk L t w w₁ where
  sm : w₁.heap[L.Sm]? = w.heap[L.Sm]?
/-- What may turn. -/
def Var (b : Nat) : Prop := b = L.Wg ∨ b = L.Sm ∨ ∃ t, t < L.n ∧ b = L.ch t
structure RM (w w₁ : World) : Prop where
  tape : w₁.tape = w.tape
  os : w₁.os = w.os
  output : w₁.output = w.output
  size : w₁.heap.size = w.heap.size
  block : ∀ b, ¬ Var L b → w₁.heap[b]? = w.heap[b]?
  live : WgLive L.ty L.Wg w → WgLive L.ty L.Wg w₁

def EvR (t : Nat) (e : Event) : Prop := (∀ x, (MemAct.ofEvent e).touch? = some x → x.kind = .plain ∧ x.write = false ∧ L.still t x.loc) ∧ e.loc ≠ .mark .disable ∧ e.loc ≠ .mark .enable ∧ e.loc ≠ .mark (.release (stA L.Wg)) ∧ (MemAct.ofEvent e).low L.B
def EvH (t : Nat) (e : Event) : Prop := (∀ x, (MemAct.ofEvent e).touch? = some x → x.kind = .plain ∧ (x.loc = .cell L.sumA ∨ (x.write = false ∧ L.still t x.loc))) ∧ e.loc ≠ .mark .disable ∧ e.loc ≠ .mark .enable ∧ e.loc ≠ .mark (.release (stA L.Wg)) ∧ (MemAct.ofEvent e).low L.B
def EvM (j : Nat) (e : Event) : Prop := (∀ x, (MemAct.ofEvent e).touch? = some x → ((ShN L.Wg x.loc ∧ x.kind ≠ .plain) ∨ (¬ ShN L.Wg x.loc ∧ x.loc ≠ .cell L.sumA ∧ (L.Shun x.loc → x.kind ≠ .plain))) ∧ (x.write = true → ∀ q, q < j → ¬ L.still q x.loc)) ∧
  e.loc ≠ .mark .disable ∧ e.loc ≠ .mark .enable ∧ e.loc ≠ .mark (.release (stA L.Wg)) ∧ (MemAct.ofEvent e).low L.B
def D0 (w w' : World) (es : Array Event) : Prop := w' = w ∧ es = #[]
def DWk (t : Nat) (w w' : World) (es : Array Event) : Prop := w' = w ∧ ∀ e ∈ es, EvR L t e
def DHk (t : Nat) (w w' : World) (es : Array Event) : Prop := Aside L.Sm w w' ∧ ∀ e ∈ es, EvH L t e
structure DM (j : Nat) (w w' : World) (es : Array Event) : Prop where
  low : ∀ b, b < L.H0 + j → w'.heap[b]? = w.heap[b]?
  ev : ∀ e ∈ es, EvM L j e

/-! ### A WORKER's end: from behind the last round -/
def AtD4 (g : Goroutine) (w : World) : Prop :=
  g.status = .running ∧ mayWake L.P g = true ∧ (WgAt L.ty L.Wg w 0 0 → ∃ g', stepG L.P false g w = .go g' (w.setCell (smA L.Wg) (.int .u32 1)) (semEvents (smA L.Wg)) ∧ ∃ q, QuitsD L.P q 1 g')
def AtD3 (g : Goroutine) (w : World) : Prop :=
  g.status = .running ∧ (WgAt L.ty L.Wg w 1 0 → ∃ g', stepG L.P false g w = .go g' (w.setCell (stA L.Wg) (.int .u64 0)) #[wr (stA L.Wg)] ∧ ∃ m, Goes L.P false (RLive L) D0 (AtD4 L) m g' (w.setCell (stA L.Wg) (.int .u64 0)))
def AtD2 (g : Goroutine) (w : World) : Prop :=
  g.status = .running ∧ (WgAt L.ty L.Wg w 1 0 → ∃ g', stepG L.P false g w = .go g' w #[rd (stA L.Wg)] ∧ ∃ m, Goes L.P false (RLive L) D0 (AtD3 L) m g' w)
/-- The atomic add of -1, whatever the count, whether or not the starter waits. -/
def AtD1 (g : Goroutine) (w : World) : Prop :=
  g.status = .running ∧ ∀ v wt : Nat, wt ≤ 1 → v < 2147483647 → WgAt L.ty L.Wg w ((v + 1) * KK + wt) 0 →
    ∃ g', stepG L.P false g w = .go g' (w.setCell (stA L.Wg) (.int .u64 (v * KK + wt))) #[rd (stA L.Wg), wr (stA L.Wg)] ∧
      ((v = 0 ∧ wt = 1) → ∃ m, Goes L.P false (RLive L) D0 (AtD2 L) m g' (w.setCell (stA L.Wg) (.int .u64 (v * KK + wt)))) ∧ (¬ (v = 0 ∧ wt = 1) → ∃ q, QuitsD L.P q 1 g')
def AtK1 (g : Goroutine) (w : World) : Prop :=
  g.status = .running ∧ ∃ g', stepG L.P false g w = .go g' w #[mk .disable] ∧ ∃ m, Goes L.P false (RLive L) D0 (AtD1 L) m g' w
def AtR0 (g : Goroutine) (w : World) : Prop :=
  g.status = .running ∧ ∃ g', stepG L.P false g w = .go g' w #[mk (.releaseMerge (stA L.Wg))] ∧ ∃ m, Goes L.P false (RLive L) D0 (AtK1 L) m g' w

/-! ### A WORKER's rounds -/
/-- At the receive on its own channel; 'N': what is known of it once it is served. -/
def AtSeat (t : Nat) (N : Goroutine → World → Prop) (g : Goroutine) (w : World) : Prop :=
  g.status = .running ∧ ∃ g₂, stepG L.P false g w = .comm g₂ #[rcase (L.ch t) U] true (.recv false) w #[] ∧ ∀ w₁, RWk L t w w₁ → N (Go.Conc.served g₂ U) w₁
/-- At the try to send on the next channel, the handed cell at x + 1. -/
def AtSend (t : Nat) (x : Nat) (N : Goroutine → World → Prop) (g : Goroutine) (w : World) : Prop :=
  g.status = .running ∧ (∃ T, w.heap[L.Sm]? = some (.cells #[.int .i64 ((x : Int) + 1)] T)) ∧ ∃ g₂, stepG L.P false g w = .comm g₂ #[scase (L.ch ((t + 1) % L.n)) U U] false .select w #[] ∧ ∀ w₁, RWk L t w w₁ → N (Go.Conc.served g₂ (.tuple #[goInt 0, .bool false])) w₁
/-- r rounds are left. -/
def Cont (t : Nat) : Nat → Goroutine → World → Prop
  | 0, g, w => ∃ m, Goes L.P false (RWk L t) (DWk L t) (AtR0 L) m g w
  | r + 1, g, w => ∃ m, Goes L.P false (RWk L t) (DWk L t) (AtSeat L t fun g w => ∀ x : Nat, x < L.n * L.k → (∃ T, w.heap[L.Sm]? = some (.cells #[.int .i64 (x : Int)] T)) → ∃ m, Goes L.P false (RH L t) (DHk L t) (AtSend L t x (Cont t r)) m g w) m g w
/-- Served: to the send. -/
def HoldN (t r : Nat) (g : Goroutine) (w : World) : Prop :=
  ∀ x : Nat, x < L.n * L.k → (∃ T, w.heap[L.Sm]? = some (.cells #[.int .i64 (x : Int)] T)) → ∃ m, Goes L.P false (RH L t) (DHk L t) (AtSend L t x (Cont L t r)) m g w

/-! ### THE STARTER, from its end backwards; 'Back': what is known of it behind the join -/
section
variable (Anch Back : Goroutine → World → Prop)
def AtAcq (g : Goroutine) (w : World) : Prop :=
  g.status = .running ∧ ∃ g', stepG L.P true g w = .go g' w #[mk (.acquire (stA L.Wg))] ∧ Back g' w
def AtKe (g : Goroutine) (w : World) : Prop :=
  g.status = .running ∧ ∃ g', stepG L.P true g w = .go g' w #[mk .enable] ∧ ∃ m, Goes L.P true (RM L) (DM L L.n) (AtAcq L Back) m g' w
def AtW4 (g : Goroutine) (w : World) : Prop :=
  g.status = .running ∧ (WgAt L.ty L.Wg w 0 0 → ∃ g', stepG L.P true g w = .go g' w #[rd (stA L.Wg)] ∧ ∃ m, Goes L.P true (RM L) (DM L L.n) (AtKe L Back) m g' w)
def AtW3 (g : Goroutine) (w : World) : Prop :=
  g.status = .running ∧ g.offers = none ∧
    ((∃ st, WgAt L.ty L.Wg w st 0) → stepG L.P true g w = .go { g with status := .blocked } w #[]) ∧
    (WgAt L.ty L.Wg w 0 1 → ∃ g', stepG L.P true g w = .go g' (w.setCell (smA L.Wg) (.int .u32 0)) (semEvents (smA L.Wg)) ∧ ∃ m, Goes L.P true (RM L) (DM L L.n) (AtW4 L Back) m g' (w.setCell (smA L.Wg) (.int .u32 0)))
/-- The CompareAndSwap, 'vs' having been seen: it hits, or misses. -/
def AtW2 (vs : Nat) (g : Goroutine) (w : World) : Prop :=
  g.status = .running ∧ ∀ v : Nat, v < 2147483648 → WgAt L.ty L.Wg w (v * KK) 0 →
    (v = vs → ∃ g', stepG L.P true g w = .go g' (w.setCell (stA L.Wg) (.int .u64 (v * KK + 1))) #[rd (stA L.Wg), wr (stA L.Wg)] ∧ ∃ m, Goes L.P true (RM L) (DM L L.n) (AtW3 L Back) m g' (w.setCell (stA L.Wg) (.int .u64 (v * KK + 1)))) ∧
    (v ≠ vs → ∃ g', stepG L.P true g w = .go g' w #[rd (stA L.Wg)] ∧ ∃ m, Goes L.P true (RM L) (DM L L.n) Anch m g' w)
def AtW1 (g : Goroutine) (w : World) : Prop :=
  g.status = .running ∧ ∀ v : Nat, v < 2147483648 → WgAt L.ty L.Wg w (v * KK) 0 → ∃ g', stepG L.P true g w = .go g' w #[rd (stA L.Wg)] ∧
    (v = 0 → ∃ m, Goes L.P true (RM L) (DM L L.n) (AtKe L Back) m g' w) ∧ (v ≠ 0 → ∃ m, Goes L.P true (RM L) (DM L L.n) (AtW2 L Anch Back v) m g' w)
def AtKd (g : Goroutine) (w : World) : Prop :=
  g.status = .running ∧ ∃ g', stepG L.P true g w = .go g' w #[mk .disable] ∧ ∃ m, Goes L.P true (RM L) (DM L L.n) Anch m g' w
/-- At the try to send on the first channel. -/
def AtGive (g : Goroutine) (w : World) : Prop :=
  g.status = .running ∧ ∃ g₂, stepG L.P true g w = .comm g₂ #[scase (L.ch 0) U U] false .select w #[] ∧ ∃ m, Goes L.P true (RM L) (DM L L.n) (AtKd L Anch) m (Go.Conc.served g₂ (.tuple #[goInt 0, .bool false])) w
end

/-! ### .. while it starts them -/
section
variable (Anch : Goroutine → World → Prop)
def AtGoS (j : Nat) (Next : Goroutine → World → Prop) (g : Goroutine) (w : World) : Prop :=
  g.status = .running ∧ ∃ g' child, stepG L.P true g w = .spawn g' child w #[] ∧ Cont L j L.k child w ∧ Next g' w
def AtKeS (j : Nat) (Next : Goroutine → World → Prop) (g : Goroutine) (w : World) : Prop :=
  g.status = .running ∧ ∃ g', stepG L.P true g w = .go g' w #[mk .enable] ∧ ∃ m, Goes L.P true (RM L) (DM L j) (AtGoS L j Next) m g' w
/-- The atomic add of +1, in company: whatever the count. -/
def AtA1 (j : Nat) (Next : Goroutine → World → Prop) (g : Goroutine) (w : World) : Prop :=
  g.status = .running ∧ ∀ v : Nat, v < 2147483647 → WgAt L.ty L.Wg w (v * KK) 0 →
    ∃ g', stepG L.P true g w = .go g' (w.setCell (stA L.Wg) (.int .u64 ((v + 1) * KK))) #[rd (stA L.Wg), wr (stA L.Wg)] ∧
      ∃ m, Goes L.P true (RM L) (DM L j) (AtKeS L j Next) m g' (w.setCell (stA L.Wg) (.int .u64 ((v + 1) * KK)))
def AtKdS (j : Nat) (Next : Goroutine → World → Prop) (g : Goroutine) (w : World) : Prop :=
  g.status = .running ∧ ∃ g', stepG L.P true g w = .go g' w #[mk .disable] ∧ ∃ m, Goes L.P true (RM L) (DM L j) (AtA1 L j Next) m g' w
/-- r workers are still to be started. -/
def Spawns : Nat → Goroutine → World → Prop
  | 0, g, w => ∃ m, Goes L.P true (RM L) (DM L L.n) (AtGive L Anch) m g w
  | r + 1, g, w => ∃ m, Goes L.P true (RM L) (DM L (L.n - (r + 1))) (AtKdS L (L.n - (r + 1)) (Spawns r)) m g w
end

/-! ### situations -/
/-- A worker's: stage (2 r + 10: r + 1 rounds left, on its way to its seat, or parked (fuel 0); 2 r + 9: it holds; 7 .. 1: its end), fuel, deafness; x: what the handed cell was at when it came to it. -/
inductive WS (t x : Nat) : Nat → Nat → Nat → Goroutine → World → Prop
  | seat {r m : Nat} {g : Goroutine} {w : World} : Goes L.P false (RWk L t) (DWk L t) (AtSeat L t (HoldN L t r)) m g w → WS t x (2 * r + 10) (m + 1) 0 g w
  | park {r : Nat} {g₂ : Goroutine} {w : World} : (∀ w₁, RWk L t w w₁ → HoldN L t r (Go.Conc.served g₂ U) w₁) → WS t x (2 * r + 10) 0 0 (parked g₂ #[rcase (L.ch t) U] (.recv false)) w
  | hold {r m : Nat} {g : Goroutine} {w : World} : Goes L.P false (RH L t) (DHk L t) (AtSend L t x (Cont L t r)) m g w → WS t x (2 * r + 9) m 0 g w
  | r0 {m : Nat} {g : Goroutine} {w : World} : Goes L.P false (RWk L t) (DWk L t) (AtR0 L) m g w → WS t x 7 m 0 g w
  | k1 {m : Nat} {g : Goroutine} {w : World} : Goes L.P false (RLive L) D0 (AtK1 L) m g w → WS t x 6 m 0 g w
  | d1 {m : Nat} {g : Goroutine} {w : World} : Goes L.P false (RLive L) D0 (AtD1 L) m g w → WS t x 5 m 1 g w
  | d2 {m : Nat} {g : Goroutine} {w : World} : Goes L.P false (RLive L) D0 (AtD2 L) m g w → WS t x 4 m 1 g w
  | d3 {m : Nat} {g : Goroutine} {w : World} : Goes L.P false (RLive L) D0 (AtD3 L) m g w → WS t x 3 m 1 g w
  | d4 {m : Nat} {g : Goroutine} {w : World} : Goes L.P false (RLive L) D0 (AtD4 L) m g w → WS t x 2 m 1 g w
  | quit {q d : Nat} {g : Goroutine} {w : World} : QuitsD L.P q d g → WS t x 1 q d g w

inductive Tag where
  | sp (r s : Nat) | give | kd | anch | w1 | w2 (vs : Nat) | w3 | blk | w4 | ke | acq

def phi (v : Nat) : Tag → Nat
  | .sp r s => 8 * L.n + 40 + (2 * L.k + 40) * (r + 1) + s
  | .give => 8 * L.n + 20
  | .kd => 8 * L.n + 7
  | .anch => 8 * v + 6
  | .w1 => 8 * v + 5
  | .w2 vs => 8 * vs + 4
  | .w3 => 5
  | .blk => 5
  | .w4 => 4
  | .ke => 3
  | .acq => 2

variable (Anch Back : Goroutine → World → Prop)
/-- The starter's: tag, how many are started, fuel, deafness. -/
inductive CS : Tag → Nat → Nat → Nat → Goroutine → World → Prop
  | skd {r m : Nat} {g : Goroutine} {w : World} : r < L.n → (Goes L.P true (RM L) (DM L (L.n - (r + 1)))) (AtKdS L (L.n - (r + 1)) (Spawns L Anch r)) m g w → CS (.sp r 5) (L.n - (r + 1)) m 0 g w
  | sa1 {r m : Nat} {g : Goroutine} {w : World} : r < L.n → (Goes L.P true (RM L) (DM L (L.n - (r + 1)))) (AtA1 L (L.n - (r + 1)) (Spawns L Anch r)) m g w → CS (.sp r 4) (L.n - (r + 1)) m 1 g w
  | ske {r m : Nat} {g : Goroutine} {w : World} : r < L.n → (Goes L.P true (RM L) (DM L (L.n - (r + 1)))) (AtKeS L (L.n - (r + 1)) (Spawns L Anch r)) m g w → CS (.sp r 3) (L.n - (r + 1)) m 1 g w
  | sgo {r m : Nat} {g : Goroutine} {w : World} : r < L.n → (Goes L.P true (RM L) (DM L (L.n - (r + 1)))) (AtGoS L (L.n - (r + 1)) (Spawns L Anch r)) m g w → CS (.sp r 2) (L.n - (r + 1)) m 0 g w
  | give {m : Nat} {g : Goroutine} {w : World} : Goes L.P true (RM L) (DM L L.n) (AtGive L Anch) m g w → CS .give L.n m 0 g w
  | kd {m : Nat} {g : Goroutine} {w : World} : Goes L.P true (RM L) (DM L L.n) (AtKd L Anch) m g w → CS .kd L.n m 0 g w
  | anch {m : Nat} {g : Goroutine} {w : World} : Goes L.P true (RM L) (DM L L.n) Anch m g w → CS .anch L.n m 1 g w
  | w1 {m : Nat} {g : Goroutine} {w : World} : Goes L.P true (RM L) (DM L L.n) (AtW1 L Anch Back) m g w → CS .w1 L.n m 1 g w
  | w2 {vs m : Nat} {g : Goroutine} {w : World} : Goes L.P true (RM L) (DM L L.n) (AtW2 L Anch Back vs) m g w → CS (.w2 vs) L.n m 1 g w
  | w3 {m : Nat} {g : Goroutine} {w : World} : Goes L.P true (RM L) (DM L L.n) (AtW3 L Back) m g w → CS .w3 L.n (m + 1) 1 g w
  | blk {g : Goroutine} {w : World} : (∀ w₁, RM L w w₁ → AtW3 L Back g w₁) → CS .blk L.n 0 1 { g with status := .blocked } w
  | w4 {m : Nat} {g : Goroutine} {w : World} : Goes L.P true (RM L) (DM L L.n) (AtW4 L Back) m g w → CS .w4 L.n m 1 g w
  | ke {m : Nat} {g : Goroutine} {w : World} : Goes L.P true (RM L) (DM L L.n) (AtKe L Back) m g w → CS .ke L.n m 1 g w
  | acq {m : Nat} {g : Goroutine} {w : World} : Goes L.P true (RM L) (DM L L.n) (AtAcq L Back) m g w → CS .acq L.n m 0 g w
end

/-! ### the relies are closed -/
section
variable {L : Lay} {t x s m d : Nat} {g : Goroutine} {w w₁ w₂ : World}

theorem RLive.refl (w : World) : RLive L w w := id
theorem RWk.refl (w : World) : RWk L t w w := ⟨fun _ _ => rfl, id⟩
theorem RWk.trans (h : RWk L t w w₁) (h' : RWk L t w₁ w₂) : RWk L t w w₂ := ⟨fun b hb => (h'.kb b hb).trans (h.kb b hb), h'.live ∘ h.live⟩
theorem RH.refl (w : World) : RH L t w w := ⟨.refl w, rfl⟩
theorem RH.trans (h : RH L t w w₁) (h' : RH L t w₁ w₂) : RH L t w w₂ := ⟨h.toRWk.trans h'.toRWk, h'.sm.trans h.sm⟩
theorem RM.refl (w : World) : RM L w w := ⟨rfl, rfl, rfl, rfl, fun _ _ => rfl, id⟩
theorem RM.trans (h : RM L w w₁) (h' : RM L w₁ w₂) : RM L w w₂ :=
  ⟨h'.tape.trans h.tape, h'.os.trans h.os, h'.output.trans h.output, h'.size.trans h.size, fun b hb => (h'.block b hb).trans (h.block b hb), h'.live ∘ h.live⟩
theorem RM.at (w : World) (d : Nat) : RM L w (w.at d) := ⟨rfl, rfl, rfl, rfl, fun _ _ => rfl, id⟩
theorem RWk.at (w : World) (d : Nat) : RWk L t w (w.at d) := ⟨fun _ _ => rfl, id⟩

theorem live_of_block (e : w₁.heap[L.Wg]? = w.heap[L.Wg]?) (h : WgLive L.ty L.Wg w) : WgLive L.ty L.Wg w₁ := let ⟨st, sm, hl⟩ := h; ⟨st, sm, hl.of_block e⟩

/-- One block has turned that is none of the read ones. -/
theorem RWk.of_aside {b : Nat} (h : Aside b w w₁) (hb : ¬ L.Kb t b) (hl : b = L.Wg → WgLive L.ty L.Wg w₁) : RWk L t w w₁ :=
  ⟨fun c hc => h.block c fun e => hb (e ▸ hc), fun hw => by
    by_cases e : b = L.Wg
    · exact hl e
    · exact live_of_block (h.block _ (Ne.symm e)) hw⟩
theorem RM.of_aside {b : Nat} (h : Aside b w w₁) (hb : Var L b) (hl : b = L.Wg → WgLive L.ty L.Wg w₁) : RM L w w₁ :=
  ⟨h.tape, h.os, h.output, h.size, fun c hc => h.block c fun e => hc (e ▸ hb), fun hw => by
    by_cases e : b = L.Wg
    · exact hl e
    · exact live_of_block (h.block _ (Ne.symm e)) hw⟩
/-- The blocks below the starter's own stand. -/
theorem RWk.of_low (G : Geo L) {j : Nat} (ht : t < j) (htn : t < L.n) (h : ∀ b, b < L.H0 + j → w₁.heap[b]? = w.heap[b]?) : RWk L t w w₁ :=
  ⟨fun b hb => h b (by have := (G.kb t b htn hb).1; omega), live_of_block (h _ (by have := G.hWg; omega))⟩

/-- It holds. -/
def Holds (s : Nat) : Prop := ∃ r, s = 2 * r + 9

theorem WS.rely (h : WS L t x s m d g w) (hr : RWk L t w w₁) (hs : Holds s → w₁.heap[L.Sm]? = w.heap[L.Sm]?) : WS L t x s m d g w₁ := by
  have tl : ∀ a b c, RLive L a b → RLive L b c → RLive L a c := fun _ _ _ h1 h2 => h2 ∘ h1
  have tr : ∀ a b c, RWk L t a b → RWk L t b c → RWk L t a c := fun _ _ _ h1 h2 => h1.trans h2
  have th : ∀ a b c, RH L t a b → RH L t b c → RH L t a c := fun _ _ _ h1 h2 => h1.trans h2
  cases h with
  | seat h => exact .seat (Goes.rely tr h hr)
  | park h => exact .park fun w₂ h₂ => h w₂ (hr.trans h₂)
  | hold h => exact .hold (Goes.rely th h ⟨hr, hs ⟨_, rfl⟩⟩)
  | r0 h => exact .r0 (Goes.rely tr h hr)
  | k1 h => exact .k1 (Goes.rely tl h hr.live)
  | d1 h => exact .d1 (Goes.rely tl h hr.live)
  | d2 h => exact .d2 (Goes.rely tl h hr.live)
  | d3 h => exact .d3 (Goes.rely tl h hr.live)
  | d4 h => exact .d4 (Goes.rely tl h hr.live)
  | quit h => exact .quit h

/-- Whoever only leaves does not look at the world. -/
theorem WS.rely1 (h : WS L t x 1 m d g w) : WS L t x 1 m d g w₁ := by
  generalize hs : 1 = s at h
  cases h with
  | quit h => rw [← hs]; exact .quit h
  | _ => omega

/-- Parked. -/
def Parked (s m : Nat) : Prop := (∃ r, s = 2 * r + 10) ∧ m = 0

theorem WS.status (h : WS L t x s m d g w) : (g.status = .running ∧ s ≠ 1) ∨ (s = 1 ∧ (g.status = .running ∨ g.status = .finished)) ∨ (Parked s m ∧ (∃ r, s = 2 * r + 10) ∧ ∃ g₂, g = parked g₂ #[rcase (L.ch t) U] (.recv false)) := by
  cases h with
  | seat h => exact .inl ⟨Goes.running (fun _ _ x => x.1) w (.refl w) h, by omega⟩
  | park h => exact .inr (.inr ⟨⟨⟨_, rfl⟩, rfl⟩, ⟨_, rfl⟩, _, rfl⟩)
  | hold h => exact .inl ⟨Goes.running (fun _ _ x => x.1) w (.refl w) h, by omega⟩
  | r0 h => exact .inl ⟨Goes.running (fun _ _ x => x.1) w (.refl w) h, by omega⟩
  | k1 h => exact .inl ⟨Goes.running (fun _ _ x => x.1) w (.refl w) h, by omega⟩
  | d1 h => exact .inl ⟨Goes.running (fun _ _ x => x.1) w (.refl w) h, by omega⟩
  | d2 h => exact .inl ⟨Goes.running (fun _ _ x => x.1) w (.refl w) h, by omega⟩
  | d3 h => exact .inl ⟨Goes.running (fun _ _ x => x.1) w (.refl w) h, by omega⟩
  | d4 h => exact .inl ⟨Goes.running (fun _ _ x => x.1) w (.refl w) h, by omega⟩
  | quit h => exact .inr (.inl ⟨rfl, h.status⟩)

theorem not_holds {s : Nat} (h : s ≤ 8) : ¬ Holds s := fun ⟨r, e⟩ => by omega
theorem not_parked {s m : Nat} (h : s ≤ 9) : ¬ Parked s m := fun ⟨⟨r, e⟩, _⟩ => by omega

theorem WS.awake (h : WS L t x s m d g w) : awake g := by
  intro tm
  rcases h.status with ⟨e, _⟩ | ⟨_, e | e⟩ | ⟨_, _, g₂, rfl⟩
  · rw [e]; simp
  · rw [e]; simp
  · rw [e]; simp
  · simp [parked]

/-- Nobody wakes a worker, its channel being open. -/
theorem WS.woken (h : WS L t x s m d g w) {w' : World} (hc : (∃ r, s = 2 * r + 10) → ∃ cap buf a b tm, w'.heap[L.ch t]? = some (.chan cap buf false a b tm)) (a a' : Goroutine) : woken L.P a a' w' g = g := by
  unfold Go.Conc.woken
  split
  · rcases h.status with ⟨e, _⟩ | ⟨_, e⟩ | ⟨_, hr, g₂, rfl⟩
    · exact again_running _ (.inl e)
    · exact again_running _ e
    · obtain ⟨cap, buf, p, q, tm, hc⟩ := hc hr
      exact again_recv_open hc
  · rfl

/-- What it offers. -/
theorem WS.offers (h : WS L t x s m d g w) (c : Nat) (send : Bool) : offersAt g c send = [] ∨ (Parked s m ∧ send = false ∧ c = L.ch t ∧ (∃ r, s = 2 * r + 10) ∧ ∃ g₂, g = parked g₂ #[rcase (L.ch t) U] (.recv false)) := by
  rcases h.status with ⟨e, _⟩ | ⟨_, e | e⟩ | ⟨hp, hr, g₂, rfl⟩
  · exact .inl (offersAt_of_not_blocked (by rw [e]; simp) _ _)
  · exact .inl (offersAt_of_not_blocked (by rw [e]; simp) _ _)
  · exact .inl (offersAt_of_not_blocked (by rw [e]; simp) _ _)
  · cases send with
    | true => exact .inl (offersAt_parked_recv' _ _ _ _ _)
    | false =>
      by_cases e : L.ch t = c
      · exact .inr ⟨hp, rfl, e.symm, hr, g₂, rfl⟩
      · refine .inl ?_
        rw [offersAt_parked_recv, if_neg e]

/-- The number that the handed cell was at matters to who holds alone. -/
theorem WS.renum {x' : Nat} (h : WS L t x s m d g w) (hs : ¬ Holds s) : WS L t x' s m d g w := by
  cases h with
  | seat h => exact .seat h
  | park h => exact .park h
  | hold h => exact absurd ⟨_, rfl⟩ hs
  | r0 h => exact .r0 h
  | k1 h => exact .k1 h
  | d1 h => exact .d1 h
  | d2 h => exact .d2 h
  | d3 h => exact .d3 h
  | d4 h => exact .d4 h
  | quit h => exact .quit h
end

section
variable {L : Lay} {Anch Back : Goroutine → World → Prop} {tag : Tag} {j f d : Nat} {a : Goroutine} {w w' : World}

theorem CS.rely (h : CS L Anch Back tag j f d a w) (hr : RM L w w') : CS L Anch Back tag j f d a w' := by
  have tr : ∀ x y z, RM L x y → RM L y z → RM L x z := fun _ _ _ h1 h2 => h1.trans h2
  cases h with
  | skd hn h => exact .skd hn (Goes.rely tr h hr)
  | sa1 hn h => exact .sa1 hn (Goes.rely tr h hr)
  | ske hn h => exact .ske hn (Goes.rely tr h hr)
  | sgo hn h => exact .sgo hn (Goes.rely tr h hr)
  | give h => exact .give (Goes.rely tr h hr)
  | kd h => exact .kd (Goes.rely tr h hr)
  | anch h => exact .anch (Goes.rely tr h hr)
  | w1 h => exact .w1 (Goes.rely tr h hr)
  | w2 h => exact .w2 (Goes.rely tr h hr)
  | w3 h => exact .w3 (Goes.rely tr h hr)
  | blk h => exact .blk (fun w₂ h₂ => h w₂ (hr.trans h₂))
  | w4 h => exact .w4 (Goes.rely tr h hr)
  | ke h => exact .ke (Goes.rely tr h hr)
  | acq h => exact .acq (Goes.rely tr h hr)

/-- It is running, or it is blocked at the semaphore. -/
theorem CS.status (hAr : ∀ g w, Anch g w → g.status = .running) (h : CS L Anch Back tag j f d a w) : (a.status = .running ∧ tag ≠ .blk) ∨ (a.status = .blocked ∧ a.offers = none ∧ tag = .blk) := by
  cases h with
  | skd _ h => exact .inl ⟨Goes.running (fun _ _ x => x.1) w (.refl w) h, by simp⟩
  | sa1 _ h => exact .inl ⟨Goes.running (fun _ _ x => x.1) w (.refl w) h, by simp⟩
  | ske _ h => exact .inl ⟨Goes.running (fun _ _ x => x.1) w (.refl w) h, by simp⟩
  | sgo _ h => exact .inl ⟨Goes.running (fun _ _ x => x.1) w (.refl w) h, by simp⟩
  | give h => exact .inl ⟨Goes.running (fun _ _ x => x.1) w (.refl w) h, by simp⟩
  | kd h => exact .inl ⟨Goes.running (fun _ _ x => x.1) w (.refl w) h, by simp⟩
  | anch h => exact .inl ⟨Goes.running hAr w (.refl w) h, by simp⟩
  | w1 h => exact .inl ⟨Goes.running (fun _ _ x => x.1) w (.refl w) h, by simp⟩
  | w2 h => exact .inl ⟨Goes.running (fun _ _ x => x.1) w (.refl w) h, by simp⟩
  | w3 h => exact .inl ⟨Goes.running (fun _ _ x => x.1) w (.refl w) h, by simp⟩
  | blk h => exact .inr ⟨rfl, (h w (.refl w)).2.1, rfl⟩
  | w4 h => exact .inl ⟨Goes.running (fun _ _ x => x.1) w (.refl w) h, by simp⟩
  | ke h => exact .inl ⟨Goes.running (fun _ _ x => x.1) w (.refl w) h, by simp⟩
  | acq h => exact .inl ⟨Goes.running (fun _ _ x => x.1) w (.refl w) h, by simp⟩

theorem CS.offers (hAr : ∀ g w, Anch g w → g.status = .running) (h : CS L Anch Back tag j f d a w) (c : Nat) (send : Bool) : offersAt a c send = [] := by
  rcases h.status hAr with ⟨e, _⟩ | ⟨e, e2, _⟩
  · exact offersAt_of_not_blocked (by rw [e]; simp) _ _
  · unfold offersAt; rw [e, e2]

/-- Under another's step: as it stood; or, blocked, it is let try again, wherever that step is one that may wake and its maker runs on. -/
theorem CS.wokenBy (hAr : ∀ g w, Anch g w → g.status = .running) (h : CS L Anch Back tag j f d a w) (hr : RM L w w') (g g' : Goroutine) :
    ∃ tag' f', CS L Anch Back tag' j f' d (woken L.P g g' w' a) w' ∧ f' ≤ f + 1 ∧ (tag' = tag ∨ (tag = .blk ∧ tag' = .w3)) ∧ (mayWake L.P g = true → g'.status = .running → tag' ≠ .blk) := by
  have h' := h.rely hr
  unfold Go.Conc.woken
  split
  · rcases h'.status hAr with ⟨hs, hne⟩ | ⟨_, _, rfl⟩
    · exact ⟨tag, f, by rw [again_running _ (.inl hs)]; exact h', by omega, .inl rfl, fun _ _ => hne⟩
    · cases h' with
      | blk hb =>
        have h3 := hb w' (.refl w')
        exact ⟨.w3, 0 + 1, by rw [Go.ConcR.again_blocked h3.1 h3.2.1]; exact .w3 (Goes.stop hb), by omega, .inr ⟨rfl, rfl⟩, fun _ _ => by simp⟩
  · rename_i hc
    exact ⟨tag, f, h', by omega, .inl rfl, fun h1 h2 => absurd (by simp [h1, h2]) hc⟩
end

end Go.Proofs.Ytejedbknpjffkaa.Rl
