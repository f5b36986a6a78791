/- Structures that are copied, compared and measured. -/
import Derived.Test.YtpfibofoeblapaaAr
set_option linter.unusedVariables false
set_option linter.unusedSimpArgs false
namespace Go.Proofs.Ytpfibofoeblapaa
open Go
theorem all_loop {body : Int → Option (Ctl Int Bool)} (m : Nat) (hm : m ≤ 1000000000) (p : Nat → Prop) (hb : ∀ k, k < m → (p k ∧ body (k : Int) = some (.go ((k + 1 : Nat) : Int))) ∨ (¬ p k ∧ body (k : Int) = some (.ret false))) (ho : ∃ j, body (m : Int) = some (.out j)) :
    (∃ j, loopR body fuel 0 = some (.inr j) ∧ ∀ k, k < m → p k) ∨ (loopR body fuel 0 = some (.inl false) ∧ ¬ ∀ k, k < m → p k) := by
  rcases loopR_inv (body := body) (s0 := 0) (PO := fun _ => ∀ k, k < m → p k) (PR := fun r => r = false ∧ ¬ ∀ k, k < m → p k) (fun j s => s = (j : Int) ∧ ∀ k, k < j → p k) m (by omega) ⟨rfl, fun k h => absurd h (by omega)⟩ (by
    rintro j s hj ⟨rfl, h⟩
    by_cases e : j = m
    · subst e
      obtain ⟨j', ho⟩ := ho
      exact .inl ⟨_, ho, h⟩
    · rcases hb j (by omega) with ⟨h1, h2⟩ | ⟨h1, h2⟩
      · refine .inr (.inr ⟨by omega, _, h2, rfl, fun k hk => ?_⟩)
        by_cases ek : k = j
        · subst ek; exact h1
        · exact h k (by omega)
      · exact .inr (.inl ⟨false, h2, rfl, fun hh => h1 (hh j (by omega))⟩)) with ⟨s', hs, hp⟩ | ⟨r, hs, rfl, hp⟩
  · exact .inl ⟨s', hs, hp⟩
  · exact .inr ⟨hs, hp⟩
theorem ext_getD {α : Type} {a b : List α} (d : α) (hl : a.length = b.length) : a = b ↔ ∀ k, k < a.length → a.getD k d = b.getD k d := by
  constructor
  · rintro rfl _ _; rfl
  · intro h
    apply List.ext_getElem hl
    intro i h1 h2
    have := h i h1
    simpa [List.getD_eq_getElem?_getD, h1, h2] using this
/-- Two lists of the same length, compared one by one. -/
theorem eq_loop {α : Type} {body : Int → Option (Ctl Int Bool)} {a b : List α} (d : α) (hl : a.length = b.length) (hm : a.length ≤ 1000000000)
    (hb : ∀ k, k < a.length → (a.getD k d = b.getD k d ∧ body (k : Int) = some (.go ((k + 1 : Nat) : Int))) ∨ (¬ a.getD k d = b.getD k d ∧ body (k : Int) = some (.ret false))) (ho : ∃ j, body (a.length : Int) = some (.out j)) :
    ((loopR body fuel 0).bind fun z_ => Sum.elim (fun r => some r) (fun _ => some true) z_) = some true ∧ a = b ∨ ((loopR body fuel 0).bind fun z_ => Sum.elim (fun r => some r) (fun _ => some true) z_) = some false ∧ a ≠ b := by
  rcases all_loop a.length hm (fun k => a.getD k d = b.getD k d) hb ho with ⟨j, h1, h2⟩ | ⟨h1, h2⟩
  · rw [h1]; exact .inl ⟨rfl, (ext_getD d hl).2 h2⟩
  · rw [h1]; exact .inr ⟨rfl, fun e => h2 ((ext_getD d hl).1 e)⟩
def big20 : Nat := 1048576
structure Sm (s : SD) : Prop where
  n : s.1.length ≤ 1048576
  x : s.2.length ≤ 1048576
  r1 : ∀ i, (s.1.getD i dN).1.length ≤ 1048576
  r2 : ∀ i, (s.1.getD i dN).2.1.length ≤ 1048576
section
variable {a b : List Int}
/-! ### rows -/
theorem l7Same_eq (hm : a.length ≤ 1000000000) : ∃ r, F_spec_l7Same a b = some r ∧ (r = true ↔ a = b) := by
  unfold F_spec_l7Same
  by_cases hl : a.length = b.length
  · rw [if_pos (by omega)]
    rcases eq_loop (body := fun st => F_spec_l7Same_b1 a b st) 0 hl hm (fun k hk => by
      unfold F_spec_l7Same_b1
      simp only [Int.toNat_natCast]
      rw [if_pos (cl hk), grd_t ⟨c0 _, cl hk⟩, grd_t ⟨c0 _, cl (hl ▸ hk)⟩]
      by_cases e : a.getD k 0 = b.getD k 0
      · rw [if_pos e]; exact .inl ⟨e, by rw [wi_succ k (by omega)]⟩
      · rw [if_neg e]; exact .inr ⟨e, rfl⟩) ⟨_, by unfold F_spec_l7Same_b1; rw [if_neg (by omega)]⟩ with ⟨h, e⟩ | ⟨h, e⟩
    · exact ⟨true, h, by simp [e]⟩
    · exact ⟨false, h, by simp [e]⟩
  · rw [if_neg (by omega)]
    exact ⟨false, rfl, by simp; exact fun e => hl (by rw [e])⟩
theorem sliceEq_eq (hm : a.length ≤ 1000000000) : ∃ r, F_slices_Equal_int_int a b = some r ∧ (r = true ↔ a = b) := by
  unfold F_slices_Equal_int_int
  by_cases hl : a.length = b.length
  · rw [if_pos (by omega)]
    rcases eq_loop (body := fun st => F_slices_Equal_int_int_b1 a b st) 0 hl hm (fun k hk => by
      unfold F_slices_Equal_int_int_b1
      simp only [Int.toNat_natCast]
      rw [if_pos (cl hk), grd_t ⟨c0 _, cl hk⟩, grd_t ⟨c0 _, cl (hl ▸ hk)⟩]
      by_cases e : a.getD k 0 = b.getD k 0
      · rw [if_pos e]; exact .inl ⟨e, by rw [wi_succ k (by omega)]⟩
      · rw [if_neg e]; exact .inr ⟨e, rfl⟩) ⟨_, by unfold F_slices_Equal_int_int_b1; rw [if_neg (by omega)]⟩ with ⟨h, e⟩ | ⟨h, e⟩
    · exact ⟨true, h, by simp [e]⟩
    · exact ⟨false, h, by simp [e]⟩
  · rw [if_neg (by omega)]
    exact ⟨false, rfl, by simp; exact fun e => hl (by rw [e])⟩
theorem eqIntS_eq (hm : a.length ≤ 1000000000) : ∃ r, F_laws_eqIntS a b = some r ∧ (r = true ↔ a = b) := by
  unfold F_laws_eqIntS
  by_cases hl : a.length = b.length
  · rw [if_pos (by omega)]
    rcases eq_loop (body := fun st => F_laws_eqIntS_b1 a b st) 0 hl hm (fun k hk => by
      unfold F_laws_eqIntS_b1
      simp only [Int.toNat_natCast]
      rw [if_pos (cl hk), grd_t ⟨c0 _, cl hk⟩, grd_t ⟨c0 _, cl (hl ▸ hk)⟩]
      by_cases e : a.getD k 0 = b.getD k 0
      · rw [if_pos e]; exact .inl ⟨e, by rw [wi_succ k (by omega)]⟩
      · rw [if_neg e]; exact .inr ⟨e, rfl⟩) ⟨_, by unfold F_laws_eqIntS_b1; rw [if_neg (by omega)]⟩ with ⟨h, e⟩ | ⟨h, e⟩
    · exact ⟨true, h, by simp [e]⟩
    · exact ⟨false, h, by simp [e]⟩
  · rw [if_neg (by omega)]
    exact ⟨false, rfl, by simp; exact fun e => hl (by rw [e])⟩
end
/-! ### nodes -/
theorem node_ext {x y : NodeD} : x = y ↔ x.1 = y.1 ∧ x.2.1 = y.2.1 ∧ x.2.2.1 = y.2.2.1 ∧ x.2.2.2 = y.2.2.2 := by
  constructor
  · rintro rfl; exact ⟨rfl, rfl, rfl, rfl⟩
  · rintro ⟨a, b, c, d⟩; exact Prod.ext a (Prod.ext b (Prod.ext c d))
section
variable {x y : NodeD}
theorem sameNode_eq (h1 : x.1.length ≤ 1000000000) (h2 : x.2.1.length ≤ 1000000000) : ∃ r, F_spec_l12SameNode x y = some r ∧ (r = true ↔ x = y) := by
  unfold F_spec_l12SameNode
  obtain ⟨r1, e1, k1⟩ := l7Same_eq (a := x.1) (b := y.1) h1
  obtain ⟨r2, e2, k2⟩ := l7Same_eq (a := x.2.1) (b := y.2.1) h2
  rw [e1]
  simp only [Option.bind_some]
  rw [node_ext]
  cases r1 with
  | false => exact ⟨false, by rw [if_neg (by simp)], by simp; intro e; exact absurd (k1.2 e) (by simp)⟩
  | true =>
    rw [if_pos rfl, e2]
    simp only [Option.bind_some]
    cases r2 with
    | false => exact ⟨false, by rw [if_neg (by simp)], by simp; intro _ e; exact absurd (k2.2 e) (by simp)⟩
    | true =>
      rw [if_pos rfl]
      have a1 := k1.1 rfl
      have a2 := k2.1 rfl
      by_cases e3 : x.2.2.1 = y.2.2.1
      · rw [if_pos e3]; exact ⟨_, rfl, by simp [a1, a2, e3]⟩
      · rw [if_neg e3]; exact ⟨_, rfl, by simp [e3]⟩
theorem eqStr1_eq (h1 : x.1.length ≤ 1000000000) (h2 : x.2.1.length ≤ 1000000000) : ∃ r, F_impl_EqualStructure_1 x y = some r ∧ (r = true ↔ x = y) := by
  unfold F_impl_EqualStructure_1
  obtain ⟨r1, e1, k1⟩ := sliceEq_eq (a := x.1) (b := y.1) h1
  obtain ⟨r2, e2, k2⟩ := sliceEq_eq (a := x.2.1) (b := y.2.1) h2
  rw [e1]
  simp only [Option.bind_some]
  rw [node_ext]
  cases r1 with
  | false => exact ⟨false, by rw [if_neg (by simp)], by simp; intro e; exact absurd (k1.2 e) (by simp)⟩
  | true =>
    rw [if_pos rfl, e2]
    simp only [Option.bind_some]
    cases r2 with
    | false => exact ⟨false, by rw [if_neg (by simp)], by simp; intro _ e; exact absurd (k2.2 e) (by simp)⟩
    | true =>
      rw [if_pos rfl]
      have a1 := k1.1 rfl
      have a2 := k2.1 rfl
      by_cases e3 : x.2.2.1 = y.2.2.1
      · rw [if_pos e3]; exact ⟨_, rfl, by simp [a1, a2, e3]⟩
      · rw [if_neg e3]; exact ⟨_, rfl, by simp [e3]⟩
theorem eqNode_eq (h1 : x.1.length ≤ 1000000000) (h2 : x.2.1.length ≤ 1000000000) : ∃ r, F_laws_eqNode x y = some r ∧ (r = true ↔ x = y) := by
  unfold F_laws_eqNode
  obtain ⟨r1, e1, k1⟩ := eqIntS_eq (a := x.1) (b := y.1) h1
  obtain ⟨r2, e2, k2⟩ := eqIntS_eq (a := x.2.1) (b := y.2.1) h2
  rw [e1]
  simp only [Option.bind_some]
  rw [node_ext]
  cases r1 with
  | false => exact ⟨false, by rw [if_neg (by simp)], by simp; intro e; exact absurd (k1.2 e) (by simp)⟩
  | true =>
    rw [if_pos rfl, e2]
    simp only [Option.bind_some]
    cases r2 with
    | false => exact ⟨false, by rw [if_neg (by simp)], by simp; intro _ e; exact absurd (k2.2 e) (by simp)⟩
    | true =>
      rw [if_pos rfl]
      have a1 := k1.1 rfl
      have a2 := k2.1 rfl
      by_cases e3 : x.2.2.1 = y.2.2.1
      · rw [if_pos e3]
        by_cases e4 : x.2.2.2 = y.2.2.2
        · rw [if_pos e4]; exact ⟨_, rfl, by simp [a1, a2, e3, e4]⟩
        · rw [if_neg e4]; exact ⟨_, rfl, by simp [e4]⟩
      · rw [if_neg e3]; exact ⟨_, rfl, by simp [e3]⟩
end
/-! ### structures -/
section
variable {s t : SD}
theorem specEq (h : Sm s) : ∃ r, F_spec_EqualStructure s t = some r ∧ (r = true ↔ s = t) := by
  have hn := h.n
  have hx := h.x
  unfold F_spec_EqualStructure
  by_cases hl : s.1.length = t.1.length
  · rw [if_pos (by omega)]
    obtain ⟨r1, e1, k1⟩ := l7Same_eq (a := s.2) (b := t.2) (by omega)
    rw [e1]
    simp only [Option.bind_some]
    cases r1 with
    | false => exact ⟨false, by rw [if_neg (by simp)], by simp; intro e; exact absurd (k1.2 (congrArg Prod.snd e)) (by simp)⟩
    | true =>
      rw [if_pos rfl]
      rcases eq_loop (body := fun st => F_spec_EqualStructure_b1 s t st) dN hl (by omega) (fun k hk => by
        obtain ⟨r, e, hr⟩ := sameNode_eq (x := s.1.getD k dN) (y := t.1.getD k dN) (by have := h.r1 k; omega) (by have := h.r2 k; omega)
        unfold F_spec_EqualStructure_b1
        simp only [Int.toNat_natCast]
        rw [if_pos (cl hk), grd_t ⟨c0 _, cl hk⟩, grd_t ⟨c0 _, cl (hl ▸ hk)⟩, e]
        simp only [Option.bind_some]
        cases r with
        | true => exact .inl ⟨hr.1 rfl, by rw [if_pos rfl, wi_succ k (by omega)]⟩
        | false => exact .inr ⟨fun e => (by have := hr.2 e; cases this), by rw [if_neg (by simp)]⟩) ⟨_, by unfold F_spec_EqualStructure_b1; rw [if_neg (by omega)]⟩ with ⟨g, e⟩ | ⟨g, e⟩
      · exact ⟨true, g, by simp; exact Prod.ext e (k1.1 rfl)⟩
      · exact ⟨false, g, by simp; exact fun e' => e (congrArg Prod.fst e')⟩
  · rw [if_neg (by omega)]
    exact ⟨false, rfl, by simp; exact fun e => hl (by rw [e])⟩
theorem implEq (h : Sm s) : ∃ r, F_impl_EqualStructure s t = some r ∧ (r = true ↔ s = t) := by
  have hn := h.n
  have hx := h.x
  unfold F_impl_EqualStructure
  obtain ⟨r1, e1, k1⟩ := sliceEq_eq (a := s.2) (b := t.2) (by omega)
  rw [e1]
  simp only [Option.bind_some]
  cases r1 with
  | false => exact ⟨false, by rw [if_neg (by simp)], by simp; intro e; exact absurd (k1.2 (congrArg Prod.snd e)) (by simp)⟩
  | true =>
    rw [if_pos rfl]
    unfold F_slices_EqualFunc_Node_Node_Node_Node
    by_cases hl : s.1.length = t.1.length
    · rw [if_pos (by omega)]
      rcases eq_loop (body := fun st => F_slices_EqualFunc_Node_Node_Node_Node_b1 s.1 t.1 (fun x15 x16 => F_impl_EqualStructure_1 x15 x16) st) dN hl (by omega) (fun k hk => by
        obtain ⟨r, e, hr⟩ := eqStr1_eq (x := s.1.getD k dN) (y := t.1.getD k dN) (by have := h.r1 k; omega) (by have := h.r2 k; omega)
        unfold F_slices_EqualFunc_Node_Node_Node_Node_b1
        simp only [Int.toNat_natCast]
        rw [if_pos (cl hk), grd_t ⟨c0 _, cl hk⟩, grd_t ⟨c0 _, cl (hl ▸ hk)⟩, e]
        simp only [Option.bind_some]
        cases r with
        | true => exact .inl ⟨hr.1 rfl, by rw [if_pos rfl, wi_succ k (by omega)]⟩
        | false => exact .inr ⟨fun e => (by have := hr.2 e; cases this), by rw [if_neg (by simp)]⟩) ⟨_, by unfold F_slices_EqualFunc_Node_Node_Node_Node_b1; rw [if_neg (by omega)]⟩ with ⟨g, e⟩ | ⟨g, e⟩
      · rw [g]; exact ⟨true, rfl, by simp; exact Prod.ext e (k1.1 rfl)⟩
      · rw [g]; exact ⟨false, rfl, by simp; exact fun e' => e (congrArg Prod.fst e')⟩
    · rw [if_neg (by omega)]
      exact ⟨false, rfl, by simp; exact fun e => hl (by rw [e])⟩
theorem lawsEq (h : Sm s) : ∃ r, F_laws_eqStructure s t = some r ∧ (r = true ↔ s = t) := by
  have hn := h.n
  have hx := h.x
  unfold F_laws_eqStructure F_laws_eqNodeS
  by_cases hl : s.1.length = t.1.length
  · rw [if_pos (by omega)]
    obtain ⟨r1, e1, k1⟩ := eqIntS_eq (a := s.2) (b := t.2) (by omega)
    rcases eq_loop (body := fun st => F_laws_eqNodeS_b1 s.1 t.1 st) dN hl (by omega) (fun k hk => by
      obtain ⟨r, e, hr⟩ := eqNode_eq (x := s.1.getD k dN) (y := t.1.getD k dN) (by have := h.r1 k; omega) (by have := h.r2 k; omega)
      unfold F_laws_eqNodeS_b1
      simp only [Int.toNat_natCast]
      rw [if_pos (cl hk), grd_t ⟨c0 _, cl hk⟩, grd_t ⟨c0 _, cl (hl ▸ hk)⟩, e]
      simp only [Option.bind_some]
      cases r with
      | true => exact .inl ⟨hr.1 rfl, by rw [if_pos rfl, wi_succ k (by omega)]⟩
      | false => exact .inr ⟨fun e => (by have := hr.2 e; cases this), by rw [if_neg (by simp)]⟩) ⟨_, by unfold F_laws_eqNodeS_b1; rw [if_neg (by omega)]⟩ with ⟨g, e⟩ | ⟨g, e⟩
    · rw [g]
      simp only [Option.bind_some]
      rw [if_pos trivial, e1]
      simp only [Option.bind_some]
      cases r1 with
      | true => exact ⟨true, rfl, by simp; exact Prod.ext e (k1.1 rfl)⟩
      | false => exact ⟨false, rfl, by simp; intro e'; exact absurd (k1.2 (congrArg Prod.snd e')) (by simp)⟩
    · rw [g]
      exact ⟨false, rfl, by simp; exact fun e' => e (congrArg Prod.fst e')⟩
  · rw [if_neg (by omega)]
    exact ⟨false, rfl, by simp; exact fun e => hl (by rw [e])⟩
end
end Go.Proofs.Ytpfibofoeblapaa
