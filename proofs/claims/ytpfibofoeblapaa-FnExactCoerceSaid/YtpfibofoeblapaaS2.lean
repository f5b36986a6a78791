/- The rules of sharpening, and loops that carry out rules. -/
import Derived.Test.YtpfibofoeblapaaSd
import Derived.Test.YtpfibofoeblapaaPB
set_option linter.unusedVariables false
set_option linter.unusedSimpArgs false
namespace Go.Proofs.Ytpfibofoeblapaa
open Go

/-! ### numbers -/
theorem wi_nat (k : Nat) (h : k ≤ 1000000000000) : wi (k : Int) = (k : Int) := wi_in _ (by omega)
theorem wi_succ (k : Nat) (h : k ≤ 1000000000000) : wi ((k : Int) + 1) = ((k + 1 : Nat) : Int) := by rw [wi_in _ (by omega)]; omega
theorem idx_lt {n u w : Nat} (hu : u < n) (hw : w < n) : u * n + w < n * n := by
  have : u * n + n ≤ n * n := by rw [← Nat.succ_mul]; exact Nat.mul_le_mul_right _ hu
  omega
theorem nn_le {n : Nat} (hn : n ≤ 10) : n * n ≤ 100 := Nat.mul_le_mul hn hn
theorem wi_idx {n u w : Nat} (hn : n ≤ 10) (hu : u < n) (hw : w < n) : wi (wi ((u : Int) * (n : Int)) + (w : Int)) = ((u * n + w : Nat) : Int) := by
  have h1 := idx_lt hu hw
  have h2 := nn_le hn
  have e : ((u : Int) * (n : Int)) = ((u * n : Nat) : Int) := by simp
  have e2 : ((u * n : Nat) : Int) + (w : Int) = ((u * n + w : Nat) : Int) := by omega
  rw [e, wi_nat (u * n) (by omega), e2, wi_nat _ (by omega)]
theorem wi_nn {n : Nat} (hn : n ≤ 10) : wi ((n : Int) * (n : Int)) = ((n * n : Nat) : Int) := by
  have h2 := nn_le hn
  have e : ((n : Int) * (n : Int)) = ((n * n : Nat) : Int) := by simp
  rw [e, wi_in _ (by omega)]
/-! ### the rules -/
section
variable (n v : Nat)
def Q1 (z u : Nat) (q : SD) : Prop := getK q (.V u z) = 2 → getK q (.M u) = 0 ∧ (∀ w, w < n → w ≠ u → getK q (.V w z) = 0) ∧ getK q (.R u z) = 2
def Q2 (z : Nat) (q : SD) : Prop := (∀ u, u < n → getK q (.V u z) = 0) → ∀ u, u < n → getK q (.R u z) = 0
def Q3 (u w : Nat) (q : SD) : Prop := getK q (.X (u * n + w)) = 2 → getK q (.M w) = 0 ∧ (∀ x, x < n → x ≠ w → getK q (.X (u * n + x)) = 0) ∧ (getK q (.S w) = 0 → getK q (.M u) = 0 ∧ ∀ x, x < n → x ≠ u → getK q (.X (x * n + w)) = 0)
def Q4 (z u w : Nat) (q : SD) : Prop := getK q (.R u z) = 2 → (getK q (.X (u * n + w)) = 2 → getK q (.R w z) = 2) ∧ ¬ (getK q (.X (u * n + w)) = 1 ∧ getK q (.R w z) = 0)
def Q5a (u : Nat) (q : SD) : Prop := getK q (.M u) = 0 → getK q (.X (u * n + u)) = 0
def Q5b (z u w : Nat) (q : SD) : Prop := getK q (.V u z) = 2 → getK q (.R w z) = 2 → getK q (.X (w * n + u)) = 0
def srcs (z w : Nat) (q : SD) : List Nat := (List.range n).filter fun u => decide (getK q (.X (u * n + w)) ≠ 0 ∧ getK q (.R u z) ≠ 0)
def Q6 (z w : Nat) (q : SD) : Prop := getK q (.V w z) = 0 → getK q (.R w z) ≠ 0 → srcs n z w q ≠ [] ∧ ∀ u, srcs n z w q = [u] → getK q (.M u) = 0 → getK q (.M w) = 0 → getK q (.R w z) = 2 → getK q (.X (u * n + w)) = 2 ∧ getK q (.R u z) = 2
/-- By one or more steps. -/
inductive Rc (E : Nat → Nat → Prop) : Nat → Nat → Prop
  | one {u w : Nat} : u < n → w < n → E u w → Rc E u w
  | more {u w x : Nat} : Rc E u w → x < n → E w x → Rc E u x
def PathZ (u w : Nat) (q : SD) : Prop := u ≠ w ∧ ¬ Rc n (fun a b => getK q (.X (a * n + b)) ≠ 0) u w
def Q6b (z u w : Nat) (q : SD) : Prop := getK q (.V u z) = 2 → PathZ n u w q → getK q (.R w z) = 0
def may (w : Nat) (q : SD) : Nat → Nat
  | 0 => 0
  | u + 1 => may w q u + (if getK q (.X (u * n + w)) ≠ 0 then 1 + (if getK q (.M u) = 1 then 1 else 0) else 0)
def must (w : Nat) (q : SD) : Nat → Nat
  | 0 => 0
  | u + 1 => must w q u + (if getK q (.X (u * n + w)) = 2 then 1 else 0)
def Q7 (w : Nat) (q : SD) : Prop := (may n w q n < 2 → getK q (.S w) = 0) ∧ (2 ≤ must n w q n → getK q (.M w) = 0 → getK q (.S w) = 2)
def Q8 (w : Nat) (q : SD) : Prop := ∃ z, z < v ∧ getK q (.R w z) ≠ 0
/-- All of them. -/
def Sharp (q : SD) : Prop := (∀ z, z < v → Q2 n z q ∧ ∀ u, u < n → Q1 n z u q ∧ (Q6 n z u q ∧ ∀ x, x < n → Q6b n z x u q) ∧ ∀ w, w < n → Q4 n z u w q) ∧
  ∀ u, u < n → (Q5a n u q ∧ ∀ z, z < v → ∀ w, w < n → Q5b n z u w q) ∧ Q7 n u q ∧ Q8 v u q ∧ ∀ w, w < n → Q3 n u w q
end
section
variable {n v : Nat}
theorem Rc.lt {E : Nat → Nat → Prop} {u w : Nat} (h : Rc n E u w) : u < n ∧ w < n := by
  induction h with
  | one h1 h2 _ => exact ⟨h1, h2⟩
  | more _ h2 _ ih => exact ⟨ih.1, h2⟩
theorem Rc.mono {E E' : Nat → Nat → Prop} {u w : Nat} (h : Rc n E u w) (hE : ∀ a b, a < n → b < n → E a b → E' a b) : Rc n E' u w := by
  induction h with
  | one h1 h2 e => exact .one h1 h2 (hE _ _ h1 h2 e)
  | more h h2 e ih => exact .more ih h2 (hE _ _ h.lt.2 h2 e)
theorem Le.zero {q y : SD} (h : Le n v q y) {k : Key} (hk : Ok n v k) (hy : getK y k ≠ 0) : getK q k ≠ 0 := fun e => hy (h.def hk e (by omega))
theorem pathZ_le {q y : SD} {u w : Nat} (h : Le n v q y) (hz : PathZ n u w q) : PathZ n u w y :=
  ⟨hz.1, fun hr => hz.2 (hr.mono fun a b ha hb e => h.zero (k := .X (a * n + b)) (idx_lt ha hb) e)⟩
theorem srcs_le {q y : SD} {z w : Nat} (h : Le n v q y) (hz : z < v) (hw : w < n) : ∀ u, u ∈ srcs n z w y → u ∈ srcs n z w q := by
  intro u hu
  simp only [srcs, List.mem_filter, List.mem_range, decide_eq_true_eq] at hu ⊢
  exact ⟨hu.1, h.zero (k := .X (u * n + w)) (idx_lt hu.1 hw) hu.2.1, h.zero (k := .R u z) ⟨hu.1, hz⟩ hu.2.2⟩
theorem may_le {q y : SD} {w : Nat} (h : Le n v q y) (hw : w < n) : ∀ m, m ≤ n → may n w y m ≤ may n w q m
  | 0, _ => Nat.le_refl _
  | u + 1, hm => by
    have ih := may_le h hw u (by omega)
    simp only [may]
    by_cases hx : getK y (.X (u * n + w)) ≠ 0
    · have hx' := h.zero (k := .X (u * n + w)) (idx_lt (by omega) hw) hx
      rw [if_pos hx, if_pos hx']
      by_cases hM : getK y (.M u) = 1
      · have : getK q (.M u) = 1 := by
          rcases h (.M u) (show u < n by omega) with e | e
          · exact e
          · exact e.trans hM
        rw [if_pos hM, if_pos this]; omega
      · rw [if_neg hM]; omega
    · rw [if_neg hx]; omega
theorem must_le {q y : SD} {w : Nat} (h : Le n v q y) (hw : w < n) : ∀ m, m ≤ n → must n w q m ≤ must n w y m
  | 0, _ => Nat.le_refl _
  | u + 1, hm => by
    have ih := must_le h hw u (by omega)
    simp only [must]
    by_cases hx : getK q (.X (u * n + w)) = 2
    · rw [if_pos hx, if_pos (h.def (k := .X (u * n + w)) (idx_lt (by omega) hw) hx (by omega))]; omega
    · rw [if_neg hx]; omega
/-! ### one value under a condition -/
theorem Op.setIf {q : SD} {k : Key} {to : Int} {ch bd : Bool} (C : SD → Prop) (w : Wf n v q) (hk : Ok n v k) (hto : to = 0 ∨ to = 2) (hm : ∀ u, k = .M u → to = 0) (hC : ∀ y, Wf n v y → Le n v q y → C y) :
    Op n v (fun y => C y → getK y k = to) q ch bd (setQ q k to ch bd).1 (setQ q k to ch bd).2.1 (setQ q k to ch bd).2.2 :=
  .set w hk hto hm (fun e _ => e) fun y wy h hl => h (hC y wy hl)
theorem Op.toBad {ρ ρ' : SD → Prop} {q q' : SD} {ch bd ch' : Bool} (h : Op n v ρ q ch bd q' ch' true) (hs : ∀ y, Wf n v y → ρ' y → ρ y) : Op n v ρ' q ch bd q' ch' true :=
  ⟨h.wf, h.le, h.bad, h.chg, h.same, fun _ e => (by cases e), h.prog, fun y wy hy hl hb => by have := (h.snd y wy (hs y wy hy) hl hb).2; cases this⟩
theorem Op.start {q : SD} {ch bd : Bool} (w : Wf n v q) {ρ : Nat → SD → Prop} : Op n v (fun y => ∀ i, i < 0 → ρ i y) q ch bd q ch bd := .skip w fun i h => absurd h (by omega)
theorem Op.next {q q' : SD} {ch bd ch' bd' : Bool} {ρ : Nat → SD → Prop} {j : Nat} (h : Op n v (fun y => (∀ i, i < j → ρ i y) ∧ ρ j y) q ch bd q' ch' bd') (w : Wf n v q) : Op n v (fun y => ∀ i, i < j + 1 → ρ i y) q ch bd q' ch' bd' :=
  h.weak (fun y _ => ⟨fun ⟨a, b⟩ i hi => by
    by_cases e : i = j
    · exact e ▸ b
    · exact a i (by omega), fun a => ⟨fun i hi => a i (by omega), a j (by omega)⟩⟩) w
abbrev LS := Bool × Bool × List NodeD × List Int × Int
/-- A loop that carries out a rule for each number. -/
theorem loop_opx {body : LS → Option (Ctl LS Empty)} {ns : List NodeD} {nx : List Int} {ch bd : Bool} (ρ : Nat → SD → Prop) (m : Nat) (hm : m ≤ 1000) (w : Wf n v (ns, nx))
    (step : ∀ j ns1 nx1 ch1 bd1, j < m → Op n v (fun y => ∀ i, i < j → ρ i y) (ns, nx) ch bd (ns1, nx1) ch1 bd1 → Wf n v (ns1, nx1) →
      (∃ ns2 nx2 ch2 bd2, body (ch1, bd1, ns1, nx1, (j : Int)) = some (.go (ch2, bd2, ns2, nx2, ((j + 1 : Nat) : Int))) ∧ Op n v (fun y => (∀ i, i < j → ρ i y) ∧ ρ j y) (ns, nx) ch bd (ns2, nx2) ch2 bd2) ∨
      (bd1 = true ∧ ∃ j', body (ch1, bd1, ns1, nx1, (j : Int)) = some (.out (ch1, bd1, ns1, nx1, j'))))
    (stop : ∀ ns1 nx1 ch1 bd1, ∃ j', body (ch1, bd1, ns1, nx1, (m : Int)) = some (.out (ch1, bd1, ns1, nx1, j'))) :
    ∃ ns' nx' ch' bd' j', loopO body fuel (ch, bd, ns, nx, 0) = some (ch', bd', ns', nx', j') ∧ Op n v (fun y => ∀ i, i < m → ρ i y) (ns, nx) ch bd (ns', nx') ch' bd' := by
  obtain ⟨s', hs, hp⟩ := loopO_inv (body := body) (s0 := (ch, bd, ns, nx, 0)) (PO := fun s => Op n v (fun y => ∀ i, i < m → ρ i y) (ns, nx) ch bd (s.2.2.1, s.2.2.2.1) s.1 s.2.1)
    (fun j s => s.2.2.2.2 = (j : Int) ∧ Op n v (fun y => ∀ i, i < j → ρ i y) (ns, nx) ch bd (s.2.2.1, s.2.2.2.1) s.1 s.2.1) m (by omega) ⟨rfl, .start w⟩ (by
      rintro j ⟨ch1, bd1, ns1, nx1, j1⟩ hj ⟨h1, h2⟩
      simp only at h1 h2
      subst h1
      by_cases e : j = m
      · subst e
        obtain ⟨j', hb⟩ := stop ns1 nx1 ch1 bd1
        exact .inl ⟨_, hb, h2⟩
      rcases step j ns1 nx1 ch1 bd1 (by omega) h2 h2.wf with ⟨ns2, nx2, ch2, bd2, hb, ho⟩ | ⟨rfl, j', hb⟩
      · exact .inr ⟨by omega, _, hb, rfl, ho.next w⟩
      · exact .inl ⟨_, hb, h2.toBad fun y _ hy i hi => hy i (by omega)⟩)
  obtain ⟨ch', bd', ns', nx', j'⟩ := s'
  exact ⟨ns', nx', ch', bd', j', hs, hp⟩
theorem loop_op {body : LS → Option (Ctl LS Empty)} {ns : List NodeD} {nx : List Int} {ch bd : Bool} (ρ : Nat → SD → Prop) (m : Nat) (hm : m ≤ 1000) (w : Wf n v (ns, nx))
    (step : ∀ j ns1 nx1 ch1 bd1, j < m → Le n v (ns, nx) (ns1, nx1) → Wf n v (ns1, nx1) →
      (∃ ns2 nx2 ch2 bd2, body (ch1, bd1, ns1, nx1, (j : Int)) = some (.go (ch2, bd2, ns2, nx2, ((j + 1 : Nat) : Int))) ∧ Op n v (ρ j) (ns1, nx1) ch1 bd1 (ns2, nx2) ch2 bd2) ∨
      (bd1 = true ∧ ∃ j', body (ch1, bd1, ns1, nx1, (j : Int)) = some (.out (ch1, bd1, ns1, nx1, j'))))
    (stop : ∀ ns1 nx1 ch1 bd1, ∃ j', body (ch1, bd1, ns1, nx1, (m : Int)) = some (.out (ch1, bd1, ns1, nx1, j'))) :
    ∃ ns' nx' ch' bd' j', loopO body fuel (ch, bd, ns, nx, 0) = some (ch', bd', ns', nx', j') ∧ Op n v (fun y => ∀ i, i < m → ρ i y) (ns, nx) ch bd (ns', nx') ch' bd' :=
  loop_opx ρ m hm w (fun j ns1 nx1 ch1 bd1 hj ho w1 => (step j ns1 nx1 ch1 bd1 hj ho.le w1).imp (fun ⟨ns2, nx2, ch2, bd2, hb, ho2⟩ => ⟨ns2, nx2, ch2, bd2, hb, ho.comp ho2⟩) id) stop
/-! ### values that are set, as the programs do it -/
def vl (x to : Int) (ch bd : Bool) : Int × Bool × Bool := if x = to then (x, ch, bd) else if x = 1 then (to, true, bd) else (x, ch, true)
theorem f_set (x to : Int) (ch bd : Bool) : F_set x to ch bd = some (vl x to ch bd) := by
  unfold F_set vl
  split
  · rfl
  · split <;> rfl
theorem setQ_vl (q : SD) (k : Key) (to : Int) (ch bd : Bool) : setQ q k to ch bd = (putK q k (vl (getK q k) to ch bd).1, (vl (getK q k) to ch bd).2) := by
  unfold setQ vl
  split
  · simp [putK_getK]
  · split
    · rfl
    · simp [putK_getK]
theorem f_value (r_vars : Int) (n_r : Nat) (ns : List NodeD) (nx : List Int) (ch bd : Bool) (x to : Int) (h : to ≠ 1) : F_spec_l20Value r_vars n_r ns nx ch bd x to = some ((vl x to ch bd).1, ns, nx, (vl x to ch bd).2.1, (vl x to ch bd).2.2) := by
  unfold F_spec_l20Value vl
  by_cases e : x = 1
  · rw [if_pos e, if_neg (by omega), if_pos e]
  · rw [if_neg e]
    by_cases e2 : x = to
    · rw [if_pos e2, if_pos e2]
    · rw [if_neg e2, if_neg e2, if_neg e]
def tp (s : SD × Bool × Bool) : List NodeD × List Int × Bool × Bool := (s.1.1, s.1.2, s.2.1, s.2.2)
end
end Go.Proofs.Ytpfibofoeblapaa
