/- Names of nodes. -/
import Derived.Test.YtpfibofoeblapaaMp
set_option linter.unusedVariables false
set_option linter.unusedSimpArgs false
namespace Go.Proofs.Ytpfibofoeblapaa
open Go
structure Bl (v : Nat) (s : SD) : Prop where
  v1 : 1 ≤ v
  v4 : v ≤ 4
  n1 : 1 ≤ s.1.length
  n10 : s.1.length ≤ 10
  x : s.2.length = s.1.length * s.1.length
  ok : ∀ i, i < s.1.length → NodeOk (v : Int) (s.1.getD i dN)
theorem Bl.of {v : Nat} {s : SD} (h : IsStr (v : Int) s) (hn : 1 ≤ s.1.length) : Bl v s := by
  obtain ⟨⟨h1, h2⟩, h3, h4, _, h5⟩ := h
  exact ⟨by omega, by omega, hn, h3, h4, h5⟩
section
variable {v : Nat} {s : SD} {i k : Nat}
theorem s_vars (hn : 1 ≤ s.1.length) : F_spec_l15Vars s = some ((s.1.getD 0 dN).1.length : Int) := by
  unfold F_spec_l15Vars
  rw [if_neg (by omega), grd_t (by omega)]
  rfl
theorem i_vars (hn : 1 ≤ s.1.length) : F_impl_variables s = some ((s.1.getD 0 dN).1.length : Int) := by
  unfold F_impl_variables
  rw [if_neg (by omega), grd_t (by omega)]
  rfl
theorem Bl.vars (h : Bl v s) : ((s.1.getD 0 dN).1.length : Int) = v := (h.ok 0 (by have := h.n1; omega)).1
def pa (s : SD) (v i k : Nat) : Int := if k < v then (s.1.getD i dN).1.getD k 0 else if k < 2 * v then (s.1.getD i dN).2.1.getD (k - v) 0 else (s.1.getD i dN).2.2.1
theorem Bl.pa (h : Bl v s) (hi : i < s.1.length) (hk : k ≤ 2 * v) : 0 ≤ pa s v i k ∧ pa s v i k ≤ 2 := by
  obtain ⟨h1, h2, h3, h4, h5, _⟩ := h.ok i hi
  unfold Go.Proofs.Ytpfibofoeblapaa.pa
  split
  · exact h3 k (by omega)
  · split
    · exact h4 (k - v) (by omega)
    · exact h5
theorem s_at {l : List Int} (hk : k < l.length) (hl : l.length ≤ 1000) : F_spec_l13At l (k : Int) = some (l.getD k 0) := by
  unfold F_spec_l13At
  rw [f_l1In]
  simp only [Option.bind_some, Int.toNat_natCast]
  rw [if_pos (decide_eq_true (by omega)), grd_t ⟨c0 _, cl hk⟩]
theorem s_pa (h : Bl v s) (hi : i < s.1.length) (hk : k ≤ 2 * v) : F_spec_PredicateAt s (k : Int) (i : Int) = some (pa s v i k) := by
  have hv := h.v4
  obtain ⟨h1, h2, h3, h4, h5, _⟩ := h.ok i hi
  unfold F_spec_PredicateAt pa
  rw [s_vars h.n1, h.vars]
  simp only [Option.bind_some, Int.toNat_natCast, f_l1In]
  rw [if_pos (decide_eq_true (by omega)), wi_in _ (by omega), wi_in (2 * (v : Int)) (by omega), wi_in (2 * (v : Int) - 1) (by omega), wi_in ((k : Int) - v) (by omega)]
  change (if decide (0 ≤ (k : Int) ∧ (k : Int) ≤ (v : Int) - 1) = true then grd _ ((F_spec_l13At (s.1.getD i dN).1 k).bind fun y25 => some y25) else if decide ((v : Int) ≤ k ∧ (k : Int) ≤ 2 * v - 1) = true then grd _ ((F_spec_l13At (s.1.getD i dN).2.1 ((k : Int) - v)).bind fun y25 => some y25) else if (k : Int) = 2 * v then grd _ (some (s.1.getD i dN).2.2.1) else some 1) = _
  by_cases c1 : k < v
  · rw [if_pos (decide_eq_true (by omega)), grd_t ⟨c0 _, cl hi⟩, s_at (by omega) (by omega), if_pos c1]; rfl
  · rw [if_neg (by rw [decide_eq_true_eq]; omega), if_neg c1]
    by_cases c2 : k < 2 * v
    · rw [if_pos (decide_eq_true (by omega)), grd_t ⟨c0 _, cl hi⟩, show ((k : Int) - v) = ((k - v : Nat) : Int) from by omega, s_at (by omega) (by omega), if_pos c2]; rfl
    · rw [if_neg (by rw [decide_eq_true_eq]; omega), if_neg c2, if_pos (by omega), grd_t ⟨c0 _, cl hi⟩]
theorem i_node (i : Int) : F_Str_isNode s i = some (decide (0 ≤ i ∧ i ≤ (s.1.length : Int) - 1)) := by
  unfold F_Str_isNode; rw [f_within]; rfl
theorem i_pa (h : Bl v s) (hi : i < s.1.length) (hk : k ≤ 2 * v) : F_impl_PredicateAt s (k : Int) (i : Int) = some (pa s v i k) := by
  have hv := h.v4
  obtain ⟨h1, h2, h3, h4, h5, _⟩ := h.ok i hi
  have d1 : (s.1.getD i (([] : List Int), ([] : List Int), 0, 0)) = s.1.getD i dN := rfl
  unfold F_impl_PredicateAt pa
  rw [i_vars h.n1, h.vars, i_node]
  simp only [Option.bind_some, Int.toNat_natCast, f_within, d1]
  rw [if_pos (decide_eq_true (by omega)), wi_in ((v : Int) - 1) (by omega), wi_in (2 * (v : Int)) (by omega), wi_in (2 * (v : Int) - 1) (by omega), wi_in ((k : Int) - v) (by omega), grd_t ⟨c0 _, cl hi⟩]
  by_cases c1 : k < v
  · rw [if_neg (by omega), if_pos (decide_eq_true (by omega)), if_pos (decide_eq_true (by omega)), grd_t ⟨c0 _, by omega⟩, if_pos c1]
  · rw [if_neg c1]
    by_cases c2 : k < 2 * v
    · rw [if_neg (by omega), if_neg (by rw [decide_eq_true_eq]; omega), if_pos (decide_eq_true (by omega)), show ((k : Int) - v) = ((k - v : Nat) : Int) from by omega, if_pos (decide_eq_true (by omega)), grd_t ⟨c0 _, by omega⟩, if_pos c2]
      simp
    · rw [if_pos (by omega), if_neg c2]
def tt (a : Int) : ByteArray := (⟨#[48, 63, 49]⟩ : ByteArray).extract a.toNat (a + 1).toNat
theorem s_tt {a : Int} (h : 0 ≤ a ∧ a ≤ 2) : F_spec_TruthText a = some (tt a) := by
  have hs : (⟨#[48, 63, 49]⟩ : ByteArray).size = 3 := rfl
  unfold F_spec_TruthText
  rw [isTruth_eq, wi_in _ (by omega)]
  simp only [Option.bind_some]
  rw [if_pos (decide_eq_true h), grd_t ⟨h.1, by omega, by rw [hs]; omega⟩]
  rfl
theorem i_tt {a : Int} (h : 0 ≤ a ∧ a ≤ 2) : F_impl_TruthText a = some (tt a) := by
  have hs : (⟨#[48, 63, 49]⟩ : ByteArray).size = 3 := rfl
  unfold F_impl_TruthText
  rw [iTruth_eq, wi_in _ (by omega)]
  simp only [Option.bind_some]
  rw [if_pos (decide_eq_true h), grd_t ⟨h.1, by omega, by rw [hs]; omega⟩]
  rfl
theorem tt_size (a : Int) : (tt a).size ≤ 3 := by
  unfold tt
  rw [ByteArray.size_extract]
  have hs : (⟨#[48, 63, 49]⟩ : ByteArray).size = 3 := rfl
  omega
def nmK (s : SD) (v i : Nat) : Nat → ByteArray
  | 0 => ⟨#[]⟩
  | k + 1 => nmK s v i k ++ tt (pa s v i k)
theorem nmK_size : ∀ k, (nmK s v i k).size ≤ 3 * k
  | 0 => Nat.le_refl _
  | k + 1 => by
    have h1 := nmK_size k
    have h2 := tt_size (pa s v i k)
    simp only [nmK, ByteArray.size_append]
    omega
def nm (s : SD) (v i : Nat) : ByteArray := nmK s v i (2 * v + 1)
theorem s_name (h : Bl v s) (hi : i < s.1.length) : F_spec_NodeName s (i : Int) = some (nm s v i) := by
  have hv := h.v4
  unfold F_spec_NodeName F_spec_CountPredicates
  rw [f_l1In]
  simp only [Option.bind_some]
  have hn := h.n1
  rw [if_pos (decide_eq_true (by omega)), if_neg (by omega), s_vars h.n1, h.vars]
  simp only [Option.bind_some]
  rw [wi_in (2 * (v : Int)) (by omega), wi_in _ (by omega)]
  obtain ⟨⟨o, j⟩, h1, h2⟩ := loopO_inv (body := fun st : ByteArray × Int => F_spec_NodeName_b1 (2 * (v : Int) + 1) s i st.1 st.2) (s0 := ((⟨#[]⟩ : ByteArray), 0)) (PO := fun st => st.1 = nm s v i) (fun k st => st.2 = (k : Int) ∧ st.1 = nmK s v i k) (2 * v + 1) (by omega) ⟨rfl, rfl⟩ (by
    rintro k ⟨o, j⟩ hk ⟨h1, h2⟩
    simp only at h1 h2
    subst h1 h2
    unfold F_spec_NodeName_b1
    by_cases e : k = 2 * v + 1
    · subst e
      exact .inl ⟨_, by rw [if_neg (by omega)], rfl⟩
    · refine .inr ⟨by omega, ?_⟩
      rw [if_pos (by omega), s_pa h hi (by omega)]
      simp only [Option.bind_some]
      rw [s_tt (h.pa hi (by omega))]
      simp only [Option.bind_some]
      have z1 := nmK_size (s := s) (v := v) (i := i) k
      have z2 := tt_size (pa s v i k)
      rw [grd_t (by unfold lim; omega)]
      exact ⟨_, by rw [wi_succ k (by omega)], rfl, rfl⟩)
  rw [h1]
  exact congrArg some h2
theorem i_name (h : Bl v s) (hi : i < s.1.length) : F_NodeName s (i : Int) = some (nm s v i) := by
  have hv := h.v4
  unfold F_NodeName F_impl_CountPredicates
  rw [i_node]
  simp only [Option.bind_some]
  have hn := h.n1
  rw [if_pos (decide_eq_true (by omega)), if_neg (by omega), i_vars h.n1, h.vars]
  simp only [Option.bind_some]
  rw [wi_in (2 * (v : Int)) (by omega), wi_in _ (by omega)]
  obtain ⟨⟨o, j⟩, h1, h2⟩ := loopO_inv (body := fun st : ByteArray × Int => F_NodeName_b1 (2 * (v : Int) + 1) s i st.1 st.2) (s0 := ((⟨#[]⟩ : ByteArray), 0)) (PO := fun st => st.1 = nm s v i) (fun k st => st.2 = (k : Int) ∧ st.1 = nmK s v i k) (2 * v + 1) (by omega) ⟨rfl, rfl⟩ (by
    rintro k ⟨o, j⟩ hk ⟨h1, h2⟩
    simp only at h1 h2
    subst h1 h2
    unfold F_NodeName_b1
    by_cases e : k = 2 * v + 1
    · subst e
      exact .inl ⟨_, by rw [if_neg (by omega)], rfl⟩
    · refine .inr ⟨by omega, ?_⟩
      rw [if_pos (by omega), i_pa h hi (by omega)]
      simp only [Option.bind_some]
      rw [i_tt (h.pa hi (by omega))]
      simp only [Option.bind_some]
      have z1 := nmK_size (s := s) (v := v) (i := i) k
      have z2 := tt_size (pa s v i k)
      rw [grd_t (by unfold lim; omega)]
      exact ⟨_, by rw [wi_succ k (by omega)], rfl, rfl⟩)
  rw [h1]
  exact congrArg some h2
end
end Go.Proofs.Ytpfibofoeblapaa
