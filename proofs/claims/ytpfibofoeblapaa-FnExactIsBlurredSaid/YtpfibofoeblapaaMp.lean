/- Marks: what is marked is held. -/
import Derived.Test.YtpfibofoeblapaaCp
set_option linter.unusedVariables false
set_option linter.unusedSimpArgs false
namespace Go.Proofs.Ytpfibofoeblapaa
open Go
def upI (k : Int) (n : Nat) : List Int := (List.range n).map fun j : Nat => k + (j : Int)
theorem upI_len {k : Int} {n : Nat} : (upI k n).length = n := by simp [upI]
theorem upI_getD {k : Int} {n j : Nat} (h : j < n) : (upI k n).getD j 0 = k + (j : Int) := by
  simp [upI, List.getD_eq_getElem?_getD, h]
theorem markI {a : List Int} {k : Int} (h : a.length ≤ 1000000000) (hk : 0 ≤ k ∧ k ≤ 4000000000000000000) : F_laws_markIntS a k = some (k + a.length, upI k a.length) := by
  unfold F_laws_markIntS
  obtain ⟨⟨a1, k1, i1⟩, hs, hp⟩ := loopO_inv (body := fun st : List Int × Int × Int => F_laws_markIntS_b1 st.1 st.2.1 st.2.2) (s0 := (a, k, 0)) (PO := fun st => st.1 = upI k a.length ∧ st.2.1 = k + a.length)
    (fun j st => st.2.2 = (j : Int) ∧ st.2.1 = k + (j : Int) ∧ st.1.length = a.length ∧ ∀ i, i < j → st.1.getD i 0 = k + (i : Int)) a.length (by omega) ⟨rfl, by simp, rfl, fun i h => absurd h (by omega)⟩ (by
      rintro j ⟨a1, k1, i1⟩ hj ⟨h1, h2, h3, h4⟩
      simp only at h1 h2 h3 h4
      subst h1 h2
      unfold F_laws_markIntS_b1
      simp only [Int.toNat_natCast]
      by_cases e : j = a.length
      · subst e
        exact .inl ⟨_, by rw [if_neg (by omega)], (ext_getD 0 (by rw [upI_len]; exact h3)).2 (fun i hi => by have hi : i < a1.length := hi; exact (h4 i (by omega)).trans (upI_getD (by omega)).symm), rfl⟩
      · have hlt : j < a1.length := by omega
        refine .inr ⟨by omega, ?_⟩
        rw [if_pos (cl hlt), grd_t ⟨c0 _, cl hlt⟩]
        refine ⟨_, by rw [wi_succ j (by omega), wi_in _ (by omega)], rfl, by simp only; omega, by simp [h3], fun i hi => ?_⟩
        by_cases ei : i = j
        · subst ei; exact gs_same hlt
        · exact (gs_ne (Ne.symm ei)).trans (h4 i (by omega)))
  rw [hs]
  simp only at hp
  simp [hp]
theorem heldI {n : Nat} {k : Int} (h : n ≤ 1000000000) (hk : 0 ≤ k ∧ k ≤ 4000000000000000000) : F_laws_heldIntS (upI k n) k = some (k + n) := by
  unfold F_laws_heldIntS
  rcases loopR_inv (body := fun st : Int × Int => F_laws_heldIntS_b1 (upI k n) st.1 st.2) (s0 := (k, 0)) (PO := fun st => st.1 = k + n) (PR := fun _ => False)
    (fun j st => st.2 = (j : Int) ∧ st.1 = k + (j : Int)) n (by omega) ⟨rfl, by simp⟩ (by
      rintro j ⟨k1, i1⟩ hj ⟨h1, h2⟩
      simp only at h1 h2
      subst h1 h2
      unfold F_laws_heldIntS_b1
      simp only [Int.toNat_natCast, upI_len]
      by_cases e : j = n
      · subst e
        exact .inl ⟨_, by rw [if_neg (by omega)], rfl⟩
      · have hlt : j < n := by omega
        refine .inr (.inr ⟨hlt, ?_⟩)
        rw [if_pos (cl hlt), grd_t ⟨c0 _, cl hlt⟩, if_pos (upI_getD hlt)]
        exact ⟨_, by rw [wi_succ j (by omega), wi_in _ (by omega)], rfl, by simp only; omega⟩) with ⟨s', hs, hp⟩ | ⟨r, _, hr⟩
  · rw [hs]; exact congrArg some hp
  · exact hr.elim
def Kn (k : Int) (xs : List NodeD) : Nat → Int
  | 0 => k
  | j + 1 => Kn k xs j + ((xs.getD j dN).1.length : Int) + ((xs.getD j dN).2.1.length : Int) + 2
theorem Kn_le {k : Int} {xs : List NodeD} (h : ∀ i, (xs.getD i dN).1.length ≤ 1000000000 ∧ (xs.getD i dN).2.1.length ≤ 1000000000) : ∀ j, k ≤ Kn k xs j ∧ Kn k xs j ≤ k + j * 2000000002
  | 0 => ⟨Int.le_refl _, by simp [Kn]⟩
  | j + 1 => by
    have := Kn_le (k := k) h j
    have := h j
    unfold Kn
    omega
def mk1 (K : Int) (x : NodeD) : NodeD := (upI K x.1.length, upI (K + x.1.length) x.2.1.length, K + x.1.length + x.2.1.length, K + x.1.length + x.2.1.length + 1)
def mkS (k : Int) (xs : List NodeD) : List NodeD := (List.range xs.length).map fun j => mk1 (Kn k xs j) (xs.getD j dN)
theorem mkS_len {k : Int} {xs : List NodeD} : (mkS k xs).length = xs.length := by simp [mkS]
theorem mkS_getD {k : Int} {xs : List NodeD} {j : Nat} (h : j < xs.length) : (mkS k xs).getD j dN = mk1 (Kn k xs j) (xs.getD j dN) := by
  simp [mkS, List.getD_eq_getElem?_getD, h]
theorem mark_b {a : List NodeD} {K : Int} {j : Nat} (hj : j < a.length) (hs : j ≤ 1000000000) (h : (a.getD j dN).1.length ≤ 1000000000 ∧ (a.getD j dN).2.1.length ≤ 1000000000) (hk : 0 ≤ K ∧ K ≤ 3000000000000000000) :
    F_laws_markNodeS_b1 a K (j : Int) = some (.go (a.set j (mk1 K (a.getD j dN)), K + (a.getD j dN).1.length + (a.getD j dN).2.1.length + 2, ((j + 1 : Nat) : Int))) := by
  have e1 : ∀ x : NodeD, (a.set j x).getD j (([] : List Int), ([] : List Int), 0, 0) = x := fun x => gs_same hj
  unfold F_laws_markNodeS_b1
  simp only [Int.toNat_natCast, List.set_set, List.length_set, e1]
  rw [if_pos (cl hj), grd_t ⟨c0 _, cl hj⟩]
  change (F_laws_markIntS (a.getD j dN).1 K).bind _ = _
  rw [markI h.1 (by omega)]
  simp only [Option.bind_some]
  change (F_laws_markIntS (a.getD j dN).2.1 _).bind _ = _
  rw [markI h.2 (by omega)]
  simp only [Option.bind_some]
  simp only [mk1, grd, List.length_set, Int.natCast_nonneg, true_and, cl hj, if_true]
  rw [wi_succ j (by omega), wi_in (_ + 1) (by omega), wi_in _ (by omega)]
  simp [Int.add_assoc]
theorem markN {xs : List NodeD} {k : Int} (hn : xs.length ≤ 1000000000) (h : ∀ i, (xs.getD i dN).1.length ≤ 1000000000 ∧ (xs.getD i dN).2.1.length ≤ 1000000000) (hk : 0 ≤ k ∧ k ≤ 1000000) : F_laws_markNodeS xs k = some (Kn k xs xs.length, mkS k xs) := by
  unfold F_laws_markNodeS
  obtain ⟨⟨a1, k1, i1⟩, hs, hp⟩ := loopO_inv (body := fun st : List NodeD × Int × Int => F_laws_markNodeS_b1 st.1 st.2.1 st.2.2) (s0 := (xs, k, 0)) (PO := fun st => st.1 = mkS k xs ∧ st.2.1 = Kn k xs xs.length)
    (fun j st => st.2.2 = (j : Int) ∧ st.2.1 = Kn k xs j ∧ st.1.length = xs.length ∧ (∀ i, i < j → st.1.getD i dN = mk1 (Kn k xs i) (xs.getD i dN)) ∧ ∀ i, j ≤ i → st.1.getD i dN = xs.getD i dN) xs.length (by omega) ⟨rfl, rfl, rfl, fun i h => absurd h (by omega), fun i _ => rfl⟩ (by
      rintro j ⟨a1, k1, i1⟩ hj ⟨h1, h2, h3, h4, h5⟩
      simp only at h1 h2 h3 h4 h5
      subst h1 h2
      by_cases e : j = xs.length
      · subst e
        refine .inl ⟨(a1, Kn k xs xs.length, (xs.length : Int)), ?_, (ext_getD dN (by rw [mkS_len]; exact h3)).2 (fun i hi => by have hi : i < a1.length := hi; exact (h4 i (by omega)).trans (mkS_getD (by omega)).symm), rfl⟩
        show F_laws_markNodeS_b1 a1 _ _ = _
        unfold F_laws_markNodeS_b1
        show (if ((xs.length : Nat) : Int) < (a1.length : Int) then _ else _) = _
        rw [if_neg (by omega)]
      · have hlt : j < a1.length := by omega
        have ej := h5 j (Nat.le_refl _)
        have kb := Kn_le (k := k) h j
        refine .inr ⟨by omega, _, mark_b (a := a1) (K := Kn k xs j) hlt (by omega) (by rw [ej]; exact h j) (by omega), rfl, by simp only [Kn, ej], by simp [h3], fun i hi => ?_, fun i hi => ?_⟩
        · by_cases ei : i = j
          · subst ei; rw [← ej]; exact gs_same hlt
          · exact (gs_ne (Ne.symm ei)).trans (h4 i (by omega))
        · exact (gs_ne (by omega)).trans (h5 i (by omega)))
  rw [hs]
  simp only at hp
  simp [hp]
theorem heldN {xs : List NodeD} {k : Int} (hn : xs.length ≤ 1000000000) (h : ∀ i, (xs.getD i dN).1.length ≤ 1000000000 ∧ (xs.getD i dN).2.1.length ≤ 1000000000) (hk : 0 ≤ k ∧ k ≤ 1000000) : F_laws_heldNodeS (mkS k xs) k = some (Kn k xs xs.length) := by
  unfold F_laws_heldNodeS
  rcases loopR_inv (body := fun st : Int × Int => F_laws_heldNodeS_b1 (mkS k xs) st.1 st.2) (s0 := (k, 0)) (PO := fun st => st.1 = Kn k xs xs.length) (PR := fun _ => False)
    (fun j st => st.2 = (j : Int) ∧ st.1 = Kn k xs j) xs.length (by omega) ⟨rfl, rfl⟩ (by
      rintro j ⟨k1, i1⟩ hj ⟨h1, h2⟩
      simp only at h1 h2
      subst h1 h2
      unfold F_laws_heldNodeS_b1
      simp only [Int.toNat_natCast, mkS_len]
      by_cases e : j = xs.length
      · subst e
        exact .inl ⟨_, by rw [if_neg (by omega)], rfl⟩
      · have hlt : j < xs.length := by omega
        have kb := Kn_le (k := k) h j
        have hj' := h j
        refine .inr (.inr ⟨hlt, ?_⟩)
        rw [if_pos (cl hlt), grd_t ⟨c0 _, cl hlt⟩]
        have ee : (mkS k xs).getD j (([] : List Int), ([] : List Int), 0, 0) = mk1 (Kn k xs j) (xs.getD j dN) := mkS_getD hlt
        simp only [ee, mk1]
        rw [heldI hj'.1 (by omega)]
        simp only [Option.bind_some]
        rw [if_neg (by omega), heldI hj'.2 (by omega)]
        simp only [Option.bind_some]
        rw [if_neg (by omega), if_pos trivial, wi_in (_ + 1) (by omega), if_pos rfl, wi_in (_ + 1) (by omega), wi_succ j (by omega)]
        exact ⟨_, rfl, rfl, by simp only [Kn]; omega⟩) with ⟨s', hs, hp⟩ | ⟨r, _, hr⟩
  · rw [hs]; exact congrArg some hp
  · exact hr.elim
/-- What is marked is held. -/
theorem mark_held {s : SD} (h : Sm s) : ∃ y, F_laws_markStructure s 1 = some y ∧ 0 ≤ y.1 ∧ F_laws_heldStructure y.2 1 = some y.1 := by
  have hn := h.n
  have hx := h.x
  have hr : ∀ i, (s.1.getD i dN).1.length ≤ 1000000000 ∧ (s.1.getD i dN).2.1.length ≤ 1000000000 := fun i => ⟨by have := h.r1 i; omega, by have := h.r2 i; omega⟩
  have kb := Kn_le (k := 1) hr s.1.length
  unfold F_laws_markStructure F_laws_heldStructure
  rw [markN (by omega) hr (by omega)]
  simp only [Option.bind_some]
  rw [markI (by omega) (by omega)]
  simp only [Option.bind_some]
  refine ⟨_, rfl, by simp only; omega, ?_⟩
  simp only
  rw [heldN (by omega) hr (by omega)]
  simp only [Option.bind_some]
  rw [if_neg (by omega), heldI (by omega) (by omega)]
  simp only [Option.bind_some]
  rw [if_neg (by omega)]
end Go.Proofs.Ytpfibofoeblapaa
