/- THE RELAY: what holds of the machine, the trace, the channels and the group at every moment, and how it is kept where one goroutine, or two that meet, go on. -/
import Derived.Test.YtejedbknpjffkaaRlS
namespace Go.Proofs.Ytejedbknpjffkaa.Rl
open Go Go.Conc
open Go.ConcN (ShN WgLive RelBy RelBy.appOther RelBy.appNot RelBy.new RelBy.book upd upd_same upd_ne sumTo sumTo_upd sumTo_congr sumTo_le le_sumTo get_map_set get_map_set_same Deaf_still Deaf_absent bk_cell deafBehind_idle norel_of)
open Go.ConcR (KK wgBlock WgAt stA smA rd wr mk Bk bk_of_mute ofEvent_loc_mark ofEvent_cell ofEvent_mk loc_of_ofEvent g_of_ofEvents deafBehind_cons deafBehind_one)

structure WD where
  stage : Nat
  fuel : Nat
  deaf : Nat

def cnt (d : WD) : Nat := if 5 ≤ d.stage then 1 else 0
def Vc (M : Nat) (D : Nat → WD) : Nat := sumTo M fun i => cnt (D i)
def Ssum (M : Nat) (D : Nat → WD) : Nat := sumTo M fun i => (D i).stage
def Fsum (M : Nat) (D : Nat → WD) : Nat := sumTo M fun i => (D i).fuel

def pend : Tag → Nat
  | .sp _ s => if s ≤ 3 then 1 else 0
  | _ => 0
def isOpen : Tag → Prop
  | .sp _ _ | .give | .kd | .anch | .w1 | .w2 _ => True
  | _ => False
def isW3 : Tag → Prop
  | .w3 | .blk => True
  | _ => False
def isFin : Tag → Prop
  | .w4 | .ke | .acq => True
  | _ => False
def isPre : Tag → Prop
  | .sp _ _ | .give => True
  | _ => False
def OpenSt (M : Nat) (D : Nat → WD) : Prop := ∀ i, i < M → 5 ≤ (D i).stage ∨ (D i).stage = 1
def AllQuit (M : Nat) (D : Nat → WD) : Prop := ∀ i, i < M → (D i).stage = 1

/-- How the group's two cells hang on where everybody stands. -/
inductive Mode (M : Nat) (D : Nat → WD) : Tag → Int → Int → Prop
  | opn {tag : Tag} : isOpen tag → OpenSt M D → (∀ vs, tag = .w2 vs → Vc M D ≤ vs ∧ 1 ≤ vs) → Mode M D tag (((Vc M D + pend tag : Nat) : Int) * KK) 0
  | reg {tag : Tag} : isW3 tag → OpenSt M D → 1 ≤ Vc M D → Mode M D tag (((Vc M D : Nat) : Int) * KK + 1) 0
  | last {tag : Tag} (z : Nat) : isW3 tag → z < M → ((D z).stage = 4 ∨ (D z).stage = 3 ∨ (D z).stage = 2) → (∀ i, i < M → i ≠ z → (D i).stage = 1) → Mode M D tag (if (D z).stage = 2 then 0 else 1) 0
  | sema : AllQuit M D → Mode M D .w3 0 1
  | fin {tag : Tag} : isFin tag → AllQuit M D → Mode M D tag 0 0

section
variable {M i : Nat} {D D' : Nat → WD} {tag tag' : Tag} {st sm : Int}

theorem Mode.retag (h : Mode M D tag st sm) (e : tag' = tag ∨ (tag = .blk ∧ tag' = .w3)) : Mode M D tag' st sm := by
  rcases e with rfl | ⟨rfl, rfl⟩
  · exact h
  · cases h with
    | opn h1 _ _ => exact h1.elim
    | reg _ h2 h3 => exact .reg trivial h2 h3
    | last z _ h2 h3 h4 => exact .last z trivial h2 h3 h4
    | fin h1 _ => exact h1.elim
theorem phi_retag (L : Lay) (v : Nat) (e : tag' = tag ∨ (tag = .blk ∧ tag' = .w3)) : phi L v tag' = phi L v tag := by
  rcases e with rfl | ⟨rfl, rfl⟩ <;> rfl
theorem phi_mono (L : Lay) {v v' : Nat} (h : v' ≤ v) (tag : Tag) : phi L v' tag ≤ phi L v tag := by
  cases tag <;> simp only [phi] <;> omega

theorem Vc_upd (D : Nat → WD) (x : WD) (hi : i < M) : Vc M (upd D i x) + cnt (D i) = Vc M D + cnt x := sumTo_upd D x cnt hi
theorem Vc_le (M : Nat) (D : Nat → WD) : Vc M D ≤ M := by
  have := sumTo_le (f := fun i => cnt (D i)) (c := 1) (j := M) fun i _ => by simp only [cnt]; split <;> omega
  simpa [Vc] using this

/-- Whoever is counted is a worker. -/
theorem Vc_le' {m0 : Nat} {D : Nat → WD} (h : ∀ i, i < m0 → (D i).stage = 1) : ∀ j, Vc (m0 + j) D ≤ j
  | 0 => by
    have : Vc (m0 + 0) D = sumTo m0 fun _ => 0 := sumTo_congr fun i hi => by simp only [cnt, h i hi]; rfl
    rw [this]
    have := sumTo_le (f := fun _ => 0) (c := 0) (j := m0) fun _ _ => Nat.le_refl _
    omega
  | j + 1 => by
    have := Vc_le' h j
    have e : Vc (m0 + (j + 1)) D = Vc (m0 + j) D + cnt (D (m0 + j)) := rfl
    have : cnt (D (m0 + j)) ≤ 1 := by simp only [cnt]; split <;> omega
    omega

theorem Mode.congr (h : ∀ a, a < M → (5 ≤ (D' a).stage ∧ 5 ≤ (D a).stage) ∨ (D' a).stage = (D a).stage) (hm : Mode M D tag st sm) : Mode M D' tag st sm := by
  have hv : Vc M D' = Vc M D := sumTo_congr fun a ha => by
    simp only [cnt]
    rcases h a ha with ⟨h1, h2⟩ | h1
    · rw [if_pos h1, if_pos h2]
    · rw [h1]
  have ho : OpenSt M D → OpenSt M D' := fun o a ha => by
    rcases h a ha with ⟨h1, _⟩ | h1
    · exact .inl h1
    · rw [h1]; exact o a ha
  have hq : ∀ a, a < M → (D a).stage ≤ 4 → (D' a).stage = (D a).stage := fun a ha h4 => by
    rcases h a ha with ⟨_, h2⟩ | h1
    · omega
    · exact h1
  cases hm with
  | opn h1 h2 h3 => rw [← hv]; exact .opn h1 (ho h2) (fun vs e => by rw [hv]; exact h3 vs e)
  | reg h1 h2 h3 => rw [← hv]; exact .reg h1 (ho h2) (by rw [hv]; exact h3)
  | last z h1 h2 h3 h4 =>
    have hz := hq z h2 (by omega)
    rw [← hz]
    exact .last z h1 h2 (by rw [hz]; exact h3) (fun a ha e => by rw [hq a ha (by have := h4 a ha e; omega)]; exact h4 a ha e)
  | sema h2 => exact .sema fun a ha => by rw [hq a ha (by have := h2 a ha; omega)]; exact h2 a ha
  | fin h1 h2 => exact .fin h1 fun a ha => by rw [hq a ha (by have := h2 a ha; omega)]; exact h2 a ha

/-- One goes on, as counted as it was. -/
theorem Mode.upd1 (hm : Mode M D tag st sm) {x : WD} (h : (5 ≤ x.stage ∧ 5 ≤ (D i).stage) ∨ x.stage = (D i).stage) : Mode M (upd D i x) tag st sm :=
  hm.congr fun a _ => by
    by_cases e : a = i
    · subst e; rw [upd_same]; exact h
    · rw [upd_ne D _ e]; exact .inr rfl

/-- Whoever stands at stage 4, 3 or 2 is the last one. -/
theorem Mode.isLast (hm : Mode M D tag st sm) (hi : i < M) (h : (D i).stage = 4 ∨ (D i).stage = 3 ∨ (D i).stage = 2) :
    isW3 tag ∧ (∀ a, a < M → a ≠ i → (D a).stage = 1) ∧ st = (if (D i).stage = 2 then 0 else 1) ∧ sm = 0 := by
  cases hm with
  | opn _ h2 _ => have := h2 i hi; omega
  | reg _ h2 _ => have := h2 i hi; omega
  | last z h1 h2 h3 h4 =>
    by_cases e : i = z
    · subst e; exact ⟨h1, h4, rfl, rfl⟩
    · have := h4 i hi e; omega
  | sema h2 => have := h2 i hi; omega
  | fin _ h2 => have := h2 i hi; omega

theorem others_uncounted (hi : i < M) (h1 : Vc M D = 1) (hc : cnt (D i) = 1) : ∀ a, a < M → a ≠ i → cnt (D a) = 0 := by
  intro a ha e
  have h0 := Vc_upd D (⟨0, 0, 0⟩ : WD) hi
  have c0 : cnt (⟨0, 0, 0⟩ : WD) = 0 := rfl
  have := le_sumTo (f := fun x => cnt (upd D i ⟨0, 0, 0⟩ x)) ha
  simp only [upd_ne D _ e] at this
  simp only [Vc] at h0 h1
  omega

theorem exists_counted : ∀ {M : Nat}, 1 ≤ Vc M D → ∃ i, i < M ∧ 5 ≤ (D i).stage
  | 0, h => by simp [Vc, sumTo] at h
  | M + 1, h => by
    by_cases hc : 5 ≤ (D M).stage
    · exact ⟨M, by omega, hc⟩
    · have : 1 ≤ Vc M D := by simp only [Vc, sumTo, cnt, if_neg hc] at h ⊢; simpa using h
      obtain ⟨i, hi, h5⟩ := exists_counted this
      exact ⟨i, by omega, h5⟩
end

/-! ### the channels -/
section
variable (L : Lay)
/-- How many of the first s gives went to worker q. -/
def snd (s q : Nat) : Nat := (s + L.n - 1 - q) / L.n
def tgt (s : Nat) : Nat := (s - 1) % L.n
def flyN : Flow → Nat
  | .fly _ _ => 1
  | _ => 0
def rcv (f : Flow) (s q : Nat) : Nat := snd L s q - (if q = tgt L s then flyN f else 0)
def buf (f : Flow) (s q : Nat) : Array Value := if q = tgt L s ∧ flyN f = 1 then #[U] else #[]

structure Tk (j s : Nat) (f : Flow) (D : Nat → WD) (w : World) : Prop where
  chan : ∀ q, q < L.n → w.heap[L.ch q]? = some (.chan 1 (buf L f s q) false (snd L s q) (rcv L f s q) false)
  form : (f = .pre ∧ s = 0) ∨ (1 ≤ s ∧ j = L.n ∧ (f = .held (L.m0 + tgt L s) ∨ f = .fly (L.ch (tgt L s)) (rcv L f s (tgt L s))))
  sum : (∀ g, f ≠ .held g) → ∃ T, w.heap[L.Sm]? = some (.cells #[.int .i64 ((s - 1 : Nat) : Int)] T)
  hold : ∀ q, q < j → (Holds (D (L.m0 + q)).stage ↔ f = .held (L.m0 + q))
  left : ∀ q, q < j → rcv L f s q + ((D (L.m0 + q)).stage - 8) / 2 = L.k
  park : ∀ q, q < j → flyN f = 1 → q = tgt L s → ¬ Parked (D (L.m0 + q)).stage (D (L.m0 + q)).fuel

structure Com (t₀ : Trace) (j x : Nat) (f : Flow) (gs : Array Goroutine) (w : World) (t : Trace) (D : Nat → WD) (d0 : Nat) : Prop where
  size : gs.size = L.m0 + j
  jn : j ≤ L.n
  z : D 0 = ⟨1, 0, 0⟩
  old : ∀ i, 0 < i → i < L.m0 → ∃ g, gs[i]? = some g ∧ (D i).stage = 1 ∧ QuitsD L.P (D i).fuel (D i).deaf g
  wk : ∀ q, q < j → ∃ g, gs[L.m0 + q]? = some g ∧ WS L q x (D (L.m0 + q)).stage (D (L.m0 + q)).fuel (D (L.m0 + q)).deaf g w
  tr : RT L.tl t₀ j t (SumK t f)
  deaf0 : Deaf t 0 = d0
  deafW : ∀ i, 0 < i → i < L.m0 + j → Deaf t i = (D i).deaf
  deafN : ∀ i, L.m0 + j ≤ i → Deaf t i = 0
  rel : ∀ q, q < j → (D (L.m0 + q)).stage ≤ 6 → ∃ r, RelBy (stA L.Wg) t (L.m0 + q) r

variable (Anch Back : Goroutine → World → Prop)
def Lt2 : Nat × Nat → Nat × Nat → Prop := Prod.Lex (· < ·) (· < ·)
def mu (M : Nat) (D : Nat → WD) (tag : Tag) (f0 : Nat) : Nat × Nat := (phi L (Vc M D) tag + Ssum M D, f0 + 2 * Fsum M D)
structure InvAt (t₀ : Trace) (gs : Array Goroutine) (w : World) (j s : Nat) (f : Flow) (D : Nat → WD) (tag : Tag) (f0 d0 : Nat) (a : Goroutine) (st sm : Int) (t : Trace) : Prop where
  main : gs[0]? = some a
  cs : CS L Anch Back tag j f0 d0 a w
  com : Com L t₀ j (s - 1) f gs w t D d0
  wg : WgAt L.ty L.Wg w st sm
  mode : Mode (L.m0 + j) D tag st sm
  tk : Tk L j s f D w
  pre : isPre tag ↔ s = 0
def Inv (t₀ : Trace) (μ : Nat × Nat) (m : Machine) (t : Trace) : Prop :=
  ∃ (gs : Array Goroutine) (w : World) (sl : Option (Nat × Nat)) (j s : Nat) (f : Flow) (D : Nat → WD) (tag : Tag) (f0 d0 : Nat) (a : Goroutine) (st sm : Int),
    m = crowd gs w sl ∧ InvAt L Anch Back t₀ gs w j s f D tag f0 d0 a st sm t ∧ μ = mu L (L.m0 + j) D tag f0
end

section
variable {L : Lay}
theorem snd_succ (G : Geo L) {s q : Nat} (hq : q < L.n) : snd L (s + 1) q = snd L s q + (if q = s % L.n then 1 else 0) := by
  have hn := G.n1
  unfold snd
  have e : s + 1 + L.n - 1 - q = (s + L.n - 1 - q) + 1 := by omega
  rw [e, Nat.succ_div]
  congr 1
  have e2 : s + L.n - 1 - q + 1 = s + (L.n - q) := by omega
  rw [e2]
  have key : (L.n ∣ s + (L.n - q)) ↔ q = s % L.n := by
    rw [Nat.dvd_iff_mod_eq_zero, Nat.add_mod]
    have hr : s % L.n < L.n := Nat.mod_lt _ (by omega)
    rcases Nat.eq_zero_or_pos q with rfl | hpos
    · have : (L.n - 0) % L.n = 0 := by simp
      rw [this, Nat.add_zero, Nat.mod_mod]
      exact eq_comm
    · have : (L.n - q) % L.n = L.n - q := Nat.mod_eq_of_lt (by omega)
      rw [this]
      rcases Nat.lt_or_ge (s % L.n + (L.n - q)) L.n with h | h
      · rw [Nat.mod_eq_of_lt h]; omega
      · rw [Nat.mod_eq_sub_mod h, Nat.mod_eq_of_lt (by omega)]; omega
  by_cases h : q = s % L.n
  · rw [if_pos (key.2 h), if_pos h]
  · rw [if_neg (fun x => h (key.1 x)), if_neg h]

theorem snd_zero (G : Geo L) {q : Nat} (hq : q < L.n) : snd L 0 q = 0 := by
  have := G.n1
  unfold snd
  exact Nat.div_eq_of_lt (by omega)

theorem tgt_lt (G : Geo L) (s : Nat) : tgt L s < L.n := Nat.mod_lt _ (by have := G.n1; omega)
theorem tgt_succ (s : Nat) : tgt L (s + 1) = s % L.n := rfl
theorem tgt_next {s : Nat} (hs : 1 ≤ s) : (tgt L s + 1) % L.n = s % L.n := by
  unfold tgt
  rw [Nat.mod_add_mod]
  congr 1
  omega

/-- What the target of the last give says of how many gives there were. -/
theorem snd_tgt (G : Geo L) {s : Nat} (hs : 1 ≤ s) : s - 1 + L.n = tgt L s + L.n * snd L s (tgt L s) := by
  have hn := G.n1
  have h1 := Nat.div_add_mod (s - 1) L.n
  have ht : tgt L s = (s - 1) % L.n := rfl
  unfold snd
  have e : s + L.n - 1 - tgt L s = L.n * ((s - 1) / L.n + 1) := by
    rw [Nat.mul_add, Nat.mul_one]; omega
  rw [e, Nat.mul_div_cancel_left _ (by omega), Nat.mul_add, Nat.mul_one]
  omega
end

end Go.Proofs.Ytejedbknpjffkaa.Rl
