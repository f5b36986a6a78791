/- Blur: the program and the reference come to the same. -/
import Derived.Test.YtpfibofoeblapaaBg
set_option linter.unusedVariables false
set_option linter.unusedSimpArgs false
namespace Go.Proofs.Ytpfibofoeblapaa
open Go
theorem iter_congr {σ ρ : Type} {b1 b2 : σ → Option (Ctl σ ρ)} (I : σ → Prop) (h : ∀ s, I s → b1 s = b2 s ∧ ∀ s', b2 s = some (.go s') → I s') : ∀ n s, I s → iter b1 n s = iter b2 n s
  | 0, _, _ => rfl
  | n + 1, s, hI => by
    obtain ⟨e, k⟩ := h s hI
    simp only [iter]
    rw [e]
    cases hc : b2 s with
    | none => rfl
    | some c =>
      cases c with
      | go s' => exact iter_congr I h n s' (k s' hc)
      | out s' => rfl
      | ret r => rfl
theorem loopO_congr {σ : Type} {b1 b2 : σ → Option (Ctl σ Empty)} (I : σ → Prop) (h : ∀ s, I s → b1 s = b2 s ∧ ∀ s', b2 s = some (.go s') → I s') (n : Nat) (s : σ) (hI : I s) : loopO b1 n s = loopO b2 n s := by
  unfold loopO
  rw [iter_congr I h n s hI]
section
variable {v : Nat} {s : SD} {g a b : List Int}
theorem nextOf_eq {i j : Int} : F_impl_NextOf s i j = F_spec_NextOf s i j := by
  unfold F_impl_NextOf F_spec_NextOf
  rw [i_node, i_node, f_l1In, f_l1In]
theorem joinOf_eq {i j : Int} : F_impl_JoinOf i j = F_spec_JoinOf i j := by
  unfold F_impl_JoinOf F_spec_JoinOf
  rw [iTruth_eq, isTruth_eq]
theorem nextOf_some (h : Bl v s) {i j : Int} (hi : 0 ≤ i ∧ i < s.1.length) (hj : 0 ≤ j ∧ j < s.1.length) : ∃ x, F_spec_NextOf s i j = some x := by
  have hn := h.n10
  obtain ⟨i, rfl⟩ := Int.eq_ofNat_of_zero_le hi.1
  obtain ⟨j, rfl⟩ := Int.eq_ofNat_of_zero_le hj.1
  have hin : i < s.1.length := by omega
  have hjn : j < s.1.length := by omega
  have h1 : i * s.1.length + j < s.1.length * s.1.length := by
    have : (i + 1) * s.1.length ≤ s.1.length * s.1.length := Nat.mul_le_mul_right _ hin
    rw [Nat.add_mul] at this; omega
  have h2 : s.1.length * s.1.length ≤ 100 := nn_le hn
  unfold F_spec_NextOf
  rw [f_l1In, f_l1In]
  simp only [Option.bind_some]
  rw [if_pos (decide_eq_true (by omega)), if_pos (decide_eq_true (by omega)), wi_nn hn, h.x, if_pos rfl]
  have e1 : ((i : Int) * (s.1.length : Int)) = ((i * s.1.length : Nat) : Int) := by simp
  rw [e1, wi_in ((i * s.1.length : Nat) : Int) (by omega), wi_in _ (by omega), grd_t ⟨by omega, by omega⟩]
  exact ⟨_, rfl⟩
theorem joinOf_some {i j : Int} : ∃ x, F_spec_JoinOf i j = some x := by
  unfold F_spec_JoinOf
  rw [isTruth_eq]
  simp only [Option.bind_some]
  split
  · split <;> exact ⟨_, rfl⟩
  · exact ⟨_, rfl⟩
def InR (s : SD) (g : List Int) : Prop := g ≠ [] ∧ g.length ≤ 10 ∧ ∀ k, k < g.length → 0 ≤ g.getD k 0 ∧ g.getD k 0 < s.1.length
theorem next_eq (h : Bl v s) (ha : InR s a) (hb : InR s b) : ∃ x, F_spec_l17Next s a b = some x ∧ F_impl_joinNext s a b = some x := by
  have hla : 0 < a.length := List.length_pos_iff.2 ha.1
  have hlb : 0 < b.length := List.length_pos_iff.2 hb.1
  have hla' := ha.2.1
  have hlb' := hb.2.1
  have inner : ∀ (i : Nat) (o : Int), i < a.length → ∃ o' j', loopO (fun st : Int × Int => F_spec_l17Next_b1 b (i : Int) a s st.1 st.2) fuel (o, 0) = some (o', j') := by
    intro i o hi
    obtain ⟨⟨o', j'⟩, h1, _⟩ := loopO_inv (body := fun st : Int × Int => F_spec_l17Next_b1 b (i : Int) a s st.1 st.2) (s0 := (o, 0)) (PO := fun _ => True) (fun j st => st.2 = (j : Int)) b.length (by omega) rfl (by
      rintro j ⟨o, j1⟩ hj h1
      simp only at h1
      subst h1
      unfold F_spec_l17Next_b1
      by_cases e : j = b.length
      · subst e
        exact .inl ⟨_, by rw [if_neg (by omega)], trivial⟩
      · have hlt : j < b.length := by omega
        refine .inr ⟨hlt, ?_⟩
        rw [if_pos (cl hlt), grd_t ⟨c0 _, cl hi⟩, grd_t ⟨c0 _, cl hlt⟩]
        simp only [Int.toNat_natCast]
        obtain ⟨x, hx⟩ := nextOf_some h (ha.2.2 i hi) (hb.2.2 j hlt)
        obtain ⟨y, hy⟩ := joinOf_some (i := o) (j := x)
        rw [hx]
        simp only [Option.bind_some]
        rw [hy]
        exact ⟨_, rfl, wi_succ j (by omega)⟩)
    exact ⟨o', j', h1⟩
  have same : ∀ (i : Nat) (o j : Int), i < a.length → F_impl_joinNext_b1 b s a (i : Int) o j = F_spec_l17Next_b1 b (i : Int) a s o j := by
    intro i o j hi
    unfold F_impl_joinNext_b1 F_spec_l17Next_b1
    rw [grd_t (c := 0 ≤ (i : Int) ∧ (i : Int) < (a.length : Int)) ⟨c0 _, cl hi⟩]
    simp only [nextOf_eq, joinOf_eq]
  have outer : ∀ st : Int × Int, 0 ≤ st.2 → F_impl_joinNext_b2 a b s st.1 st.2 = F_spec_l17Next_b2 a b s st.1 st.2 := by
    rintro ⟨o, i⟩ hi
    obtain ⟨i, rfl⟩ := Int.eq_ofNat_of_zero_le hi
    simp only
    unfold F_impl_joinNext_b2 F_spec_l17Next_b2
    by_cases c : (i : Int) < (a.length : Int)
    · rw [if_pos c, if_pos c, grd_t ⟨c0 _, c⟩]
      have : (fun st : Int × Int => F_impl_joinNext_b1 b s a (i : Int) st.1 st.2) = fun st => F_spec_l17Next_b1 b (i : Int) a s st.1 st.2 := funext fun st => same i st.1 st.2 (by omega)
      rw [this]
    · rw [if_neg c, if_neg c]
  have go : ∀ st s' : Int × Int, (0 ≤ st.2 ∧ st.2 ≤ 1000) → F_spec_l17Next_b2 a b s st.1 st.2 = some (.go s') → 0 ≤ s'.2 ∧ s'.2 ≤ 1000 := by
    rintro ⟨o, i⟩ s' hi he
    obtain ⟨i, rfl⟩ := Int.eq_ofNat_of_zero_le hi.1
    simp only at he
    unfold F_spec_l17Next_b2 at he
    by_cases c : (i : Int) < (a.length : Int)
    · rw [if_pos c] at he
      obtain ⟨o', j', e1⟩ := inner i o (by omega)
      rw [e1] at he
      simp only [Option.bind_some, Option.some.injEq, Ctl.go.injEq] at he
      subst he
      simp only
      rw [wi_succ i (by omega)]; omega
    · rw [if_neg c] at he; simp at he
  have total : ∀ o : Int, ∃ r, loopO (fun st : Int × Int => F_spec_l17Next_b2 a b s st.1 st.2) fuel (o, 0) = some r := by
    intro o
    obtain ⟨r, h1, _⟩ := loopO_inv (body := fun st : Int × Int => F_spec_l17Next_b2 a b s st.1 st.2) (s0 := (o, 0)) (PO := fun _ => True) (fun j st => st.2 = (j : Int)) a.length (by omega) rfl (by
      rintro j ⟨o, j1⟩ hj h1
      simp only at h1
      subst h1
      unfold F_spec_l17Next_b2
      by_cases e : j = a.length
      · subst e
        exact .inl ⟨_, by rw [if_neg (by omega)], trivial⟩
      · have hlt : j < a.length := by omega
        obtain ⟨o', j', e1⟩ := inner j o hlt
        refine .inr ⟨hlt, ?_⟩
        rw [if_pos (cl hlt), e1]
        exact ⟨_, rfl, wi_succ j (by omega)⟩)
    exact ⟨r, h1⟩
  obtain ⟨x0, hx0⟩ := nextOf_some h (ha.2.2 0 hla) (hb.2.2 0 hlb)
  obtain ⟨r, hr⟩ := total x0
  unfold F_spec_l17Next F_impl_joinNext
  rw [grd_t (c := 0 < (a.length : Int)) (by omega), grd_t (c := 0 < (b.length : Int)) (by omega), grd_t (c := 0 < (a.length : Int)) (by omega), grd_t (c := 0 < (b.length : Int)) (by omega), nextOf_eq]
  change ∃ x, ((F_spec_NextOf s (a.getD 0 0) (b.getD 0 0)).bind _) = some x ∧ ((F_spec_NextOf s (a.getD 0 0) (b.getD 0 0)).bind _) = some x
  rw [hx0]
  simp only [Option.bind_some]
  rw [loopO_congr (fun st : Int × Int => 0 ≤ st.2 ∧ st.2 ≤ 1000) (fun st hI => ⟨outer st hI.1, fun s' => go st s' hI⟩) fuel (x0, 0) ⟨Int.le_refl _, by simp⟩, hr]
  exact ⟨_, rfl, rfl⟩
def ndv (s : SD) (g : List Int) : Int := if g.length > 1 then 1 else if (s.1.getD (g.getD 0 0).toNat dN).2.2.2 = 0 then (s.1.getD (g.getD 0 0).toNat dN).2.2.2 else 1
def nd (s : SD) (g : List Int) : NodeD := ((s.1.getD (g.getD 0 0).toNat dN).1, (s.1.getD (g.getD 0 0).toNat dN).2.1, (s.1.getD (g.getD 0 0).toNat dN).2.2.1, ndv s g)
theorem copyN {x : NodeD} (h1 : x.1.length ≤ 1000) (h2 : x.2.1.length ≤ 1000) : F_spec_l12CopyNode x = some x := by
  unfold F_spec_l12CopyNode
  rw [grd_t (by simp [lim]; omega), grd_t (by simp [lim]; omega)]
  rfl
theorem ownN {x : NodeD} (h1 : x.1.length ≤ 1000) (h2 : x.2.1.length ≤ 1000) : F_Node_own x = some x := by
  unfold F_Node_own
  rw [clone_eq (by omega), clone_eq (by omega)]
  rfl
theorem Bl.rows (h : Bl v s) {i : Nat} (hi : i < s.1.length) : (s.1.getD i dN).1.length ≤ 1000 ∧ (s.1.getD i dN).2.1.length ≤ 1000 := by
  obtain ⟨h1, h2, _⟩ := h.ok i hi
  have := h.v4
  omega
theorem s_node (h : Bl v s) (hg : InR s g) : F_spec_l17Node s g = some (nd s g) := by
  have hl : 0 < g.length := List.length_pos_iff.2 hg.1
  have hl' := hg.2.1
  obtain ⟨r1, r2⟩ := hg.2.2 0 hl
  have hr := h.rows (i := (g.getD 0 0).toNat) (by omega)
  unfold F_spec_l17Node
  rw [grd_t (c := 0 < (g.length : Int)) (by omega)]
  change grd (0 ≤ g.getD 0 0 ∧ g.getD 0 0 < (s.1.length : Int)) ((F_spec_l12CopyNode (s.1.getD (g.getD 0 0).toNat dN)).bind _) = _
  rw [grd_t ⟨r1, r2⟩, copyN hr.1 hr.2]
  simp only [Option.bind_some]
  obtain ⟨⟨m, j⟩, h1, h2⟩ := loopO_inv (body := fun st : Int × Int => F_spec_l17Node_b1 g s st.1 st.2) (s0 := ((s.1.getD (g.getD 0 0).toNat dN).2.2.2, 0)) (PO := fun st => st.1 = ndv s g)
    (fun j st => st.2 = (j : Int) ∧ (j = 0 → st.1 = (s.1.getD (g.getD 0 0).toNat dN).2.2.2) ∧ (1 ≤ j → st.1 = ndv s g)) g.length (by omega) ⟨rfl, fun _ => rfl, fun h => absurd h (by omega)⟩ (by
      rintro j ⟨m, j1⟩ hj ⟨h1, h2, h3⟩
      simp only at h1 h2 h3
      subst h1
      unfold F_spec_l17Node_b1
      by_cases e : j = g.length
      · subst e
        exact .inl ⟨_, by rw [if_neg (by omega)], h3 (by omega)⟩
      · have hlt : j < g.length := by omega
        refine .inr ⟨hlt, ?_⟩
        rw [if_pos (cl hlt)]
        by_cases c : g.length > 1
        · rw [if_pos (by omega)]
          refine ⟨_, rfl, wi_succ j (by omega), fun h => absurd h (by omega), fun _ => ?_⟩
          simp only [ndv]; rw [if_pos c]
        · have hj0 : j = 0 := by omega
          subst hj0
          rw [if_neg (by omega), grd_t ⟨c0 _, cl hlt⟩]
          change ∃ s', grd (0 ≤ g.getD 0 0 ∧ g.getD 0 0 < (s.1.length : Int)) (if (s.1.getD (g.getD 0 0).toNat dN).2.2.2 = 0 then some (Ctl.go (ρ := Empty) (m, wi (((0 : Nat) : Int) + 1))) else some (Ctl.go (1, wi (((0 : Nat) : Int) + 1)))) = some (Ctl.go s') ∧ _
          rw [grd_t ⟨r1, r2⟩]
          by_cases c2 : (s.1.getD (g.getD 0 0).toNat dN).2.2.2 = 0
          · rw [if_pos c2]
            refine ⟨_, rfl, wi_succ 0 (by omega), fun h => absurd h (by omega), fun _ => ?_⟩
            simp only [ndv]; rw [if_neg c, if_pos c2]; exact h2 rfl
          · rw [if_neg c2]
            refine ⟨_, rfl, wi_succ 0 (by omega), fun h => absurd h (by omega), fun _ => ?_⟩
            simp only [ndv]; rw [if_neg c, if_neg c2])
  rw [h1]
  have h2 : m = ndv s g := h2
  subst h2
  rfl
end
end Go.Proofs.Ytpfibofoeblapaa
