/- Structures that are copied and measured; what is a structure. -/
import Derived.Test.YtpfibofoeblapaaEq
set_option linter.unusedVariables false
set_option linter.unusedSimpArgs false
namespace Go.Proofs.Ytpfibofoeblapaa
open Go
/-! ### copies -/
theorem toIntS_eq {a : List Int} (h : a.length ≤ 1000000000) : F_laws_toIntS a = some a := by
  unfold F_laws_toIntS
  simp only [Int.toNat_natCast]
  rw [grd_t ⟨c0 _, by omega⟩]
  obtain ⟨⟨out, j1⟩, hs, hp⟩ := loopO_inv (body := fun st : List Int × Int => F_laws_toIntS_b1 a st.1 st.2) (s0 := (List.replicate a.length 0, 0)) (PO := fun s => s.1 = a)
    (fun j s => s.2 = (j : Int) ∧ s.1.length = a.length ∧ ∀ k, k < j → s.1.getD k 0 = a.getD k 0) a.length (by omega) ⟨rfl, by simp, fun k h => absurd h (by omega)⟩ (by
      rintro j ⟨out, j1⟩ hj ⟨h1, h2, h3⟩
      simp only at h1 h2 h3
      subst h1
      unfold F_laws_toIntS_b1
      simp only [Int.toNat_natCast]
      by_cases e : j = a.length
      · subst e
        exact .inl ⟨_, by rw [if_neg (by omega)], (ext_getD 0 h2).2 (by rw [h2]; exact h3)⟩
      · have hlt : j < a.length := by omega
        refine .inr ⟨hlt, ?_⟩
        rw [if_pos (cl hlt), grd_t ⟨c0 _, cl hlt⟩, grd_t ⟨c0 _, by rw [h2]; exact cl hlt⟩]
        refine ⟨_, by rw [wi_succ j (by omega)], rfl, by simp [h2], fun k hk => ?_⟩
        by_cases ek : k = j
        · subst ek; exact gs_same (by omega)
        · exact (gs_ne (Ne.symm ek)).trans (h3 k (by omega)))
  rw [hs]
  simp only at hp
  simp [hp]
theorem toNode_eq {x : NodeD} (h1 : x.1.length ≤ 1000000000) (h2 : x.2.1.length ≤ 1000000000) : F_laws_toNode x = some x := by
  unfold F_laws_toNode
  rw [toIntS_eq h1, toIntS_eq h2]
  rfl
theorem toStr_eq {s : SD} (h : Sm s) : F_laws_toStructure s = some s := by
  have hn := h.n
  have hx := h.x
  unfold F_laws_toStructure F_laws_toNodeS
  simp only [Int.toNat_natCast]
  rw [grd_t ⟨c0 _, by omega⟩, toIntS_eq (by omega)]
  obtain ⟨⟨out, j1⟩, hs, hp⟩ := loopO_inv (body := fun st : List NodeD × Int => F_laws_toNodeS_b1 s.1 st.1 st.2) (s0 := (List.replicate s.1.length dN, 0)) (PO := fun st => st.1 = s.1)
    (fun j st => st.2 = (j : Int) ∧ st.1.length = s.1.length ∧ ∀ k, k < j → st.1.getD k dN = s.1.getD k dN) s.1.length (by omega) ⟨rfl, by simp, fun k h => absurd h (by omega)⟩ (by
      rintro j ⟨out, j1⟩ hj ⟨h1, h2, h3⟩
      simp only at h1 h2 h3
      subst h1
      unfold F_laws_toNodeS_b1
      simp only [Int.toNat_natCast]
      by_cases e : j = s.1.length
      · subst e
        exact .inl ⟨_, by rw [if_neg (by omega)], (ext_getD dN h2).2 (by rw [h2]; exact h3)⟩
      · have hlt : j < s.1.length := by omega
        refine .inr ⟨hlt, ?_⟩
        rw [if_pos (cl hlt), grd_t ⟨c0 _, cl hlt⟩, toNode_eq (x := s.1.getD j dN) (by have := h.r1 j; omega) (by have := h.r2 j; omega)]
        simp only [Option.bind_some]
        rw [grd_t ⟨c0 _, by rw [h2]; exact cl hlt⟩]
        refine ⟨_, by rw [wi_succ j (by omega)], rfl, by simp [h2], fun k hk => ?_⟩
        by_cases ek : k = j
        · subst ek; exact gs_same (by omega)
        · exact (gs_ne (Ne.symm ek)).trans (h3 k (by omega)))
  rw [hs]
  simp only at hp
  simp [hp]
theorem clone_eq {a : List Int} (h : a.length ≤ 1000000000) : F_slices_Clone_int_int a = some a := grd_t (by unfold lim; omega)
theorem take_succ {α : Type} {xs : List α} {j : Nat} (d : α) (h : j < xs.length) : xs.take (j + 1) = xs.take j ++ [xs.getD j d] := by
  rw [List.take_succ_eq_append_getElem h]
  simp [List.getD_eq_getElem?_getD, h]
theorem own_eq {s : SD} (h : Sm s) : F_Str_own s = some s := by
  have hn := h.n
  have hx := h.x
  unfold F_Str_own
  rw [clone_eq (by omega)]
  simp only [Option.bind_some]
  obtain ⟨⟨out, j1⟩, hs, hp⟩ := loopO_inv (body := fun st : List NodeD × Int => F_Str_own_b1 s st.1 st.2) (s0 := ([], 0)) (PO := fun st => st.1 = s.1)
    (fun j st => st.2 = (j : Int) ∧ st.1 = s.1.take j) s.1.length (by omega) ⟨rfl, rfl⟩ (by
      rintro j ⟨out, j1⟩ hj ⟨h1, h2⟩
      simp only at h1 h2
      subst h1 h2
      unfold F_Str_own_b1
      simp only [Int.toNat_natCast]
      by_cases e : j = s.1.length
      · subst e
        exact .inl ⟨_, by rw [if_neg (by omega)], by simp⟩
      · have hlt : j < s.1.length := by omega
        refine .inr ⟨hlt, ?_⟩
        have hno : F_Node_own (s.1.getD j dN) = some (s.1.getD j dN) := by
          unfold F_Node_own
          rw [clone_eq (by have := h.r1 j; omega), clone_eq (by have := h.r2 j; omega)]
          rfl
        rw [if_pos (cl hlt), grd_t ⟨c0 _, cl hlt⟩, hno]
        simp only [Option.bind_some]
        rw [grd_t (by simp; unfold lim; omega)]
        exact ⟨_, by rw [wi_succ j (by omega)], rfl, (take_succ dN hlt).symm⟩)
  rw [hs]
  simp only at hp
  simp [hp]
theorem copy_eq {s : SD} (h : Sm s) : F_spec_l12Copy s = some s := by
  have hn := h.n
  have hx := h.x
  unfold F_spec_l12Copy
  rw [grd_t (by simp; unfold lim; omega)]
  obtain ⟨⟨out, j1⟩, hs, hp⟩ := loopO_inv (body := fun st : List NodeD × Int => F_spec_l12Copy_b1 s st.1 st.2) (s0 := ([], 0)) (PO := fun st => st.1 = s.1)
    (fun j st => st.2 = (j : Int) ∧ st.1 = s.1.take j) s.1.length (by omega) ⟨rfl, rfl⟩ (by
      rintro j ⟨out, j1⟩ hj ⟨h1, h2⟩
      simp only at h1 h2
      subst h1 h2
      unfold F_spec_l12Copy_b1
      simp only [Int.toNat_natCast]
      by_cases e : j = s.1.length
      · subst e
        exact .inl ⟨_, by rw [if_neg (by omega)], by simp⟩
      · have hlt : j < s.1.length := by omega
        refine .inr ⟨hlt, ?_⟩
        have hno : F_spec_l12CopyNode (s.1.getD j dN) = some (s.1.getD j dN) := by
          unfold F_spec_l12CopyNode
          rw [grd_t (by have := h.r1 j; simp only [List.length_nil]; unfold lim; omega), grd_t (by have := h.r2 j; simp only [List.length_nil]; unfold lim; omega)]
          rfl
        rw [if_pos (cl hlt), grd_t ⟨c0 _, cl hlt⟩, hno]
        simp only [Option.bind_some]
        rw [grd_t (by simp; unfold lim; omega)]
        exact ⟨_, by rw [wi_succ j (by omega)], rfl, (take_succ dN hlt).symm⟩)
  rw [hs]
  simp only at hp
  simp [hp]
/-! ### how large it is -/
structure Lg (s : SD) : Prop where
  n : s.1.length ≤ 281474976710656
  x : s.2.length ≤ 281474976710656
  r1 : ∀ i, (s.1.getD i dN).1.length ≤ 281474976710656
  r2 : ∀ i, (s.1.getD i dN).2.1.length ≤ 281474976710656
theorem sz_row {a : List Int} {left : Int} (h : a.length ≤ 281474976710656) (hl : 0 ≤ left ∧ left ≤ 1048576) : ∃ y, F_laws_szIntS a left = some y ∧ ((y = -1) ∨ (0 ≤ y ∧ y ≤ left ∧ a.length ≤ 1048576)) := by
  unfold F_laws_szIntS
  rw [wi_in _ (by omega)]
  by_cases e : left - (a.length : Int) < 0
  · rw [if_pos e]; exact ⟨_, rfl, .inl rfl⟩
  · rw [if_neg e]; exact ⟨_, rfl, .inr (by omega)⟩
theorem sz_node {x : NodeD} {left : Int} (h1 : x.1.length ≤ 281474976710656) (h2 : x.2.1.length ≤ 281474976710656) (hl : 0 ≤ left ∧ left ≤ 1048576) :
    ∃ y, F_laws_szNode x left = some y ∧ ((y = -1) ∨ (0 ≤ y ∧ y ≤ left ∧ x.1.length ≤ 1048576 ∧ x.2.1.length ≤ 1048576)) := by
  unfold F_laws_szNode
  obtain ⟨y1, e1, k1⟩ := sz_row h1 hl
  rw [e1]
  simp only [Option.bind_some]
  rcases k1 with rfl | ⟨a, b, c⟩
  · exact ⟨_, by rw [if_pos (by omega)], .inl rfl⟩
  · rw [if_neg (by omega)]
    obtain ⟨y2, e2, k2⟩ := sz_row (left := y1) h2 (by omega)
    rw [e2]
    simp only [Option.bind_some]
    rcases k2 with rfl | ⟨a2, b2, c2⟩
    · exact ⟨_, by rw [if_pos (by omega)], .inl rfl⟩
    · exact ⟨_, by rw [if_neg (by omega)], .inr (by omega)⟩
theorem sz_str {s : SD} (h : Lg s) : ∃ y, F_laws_szStructure s 1048576 = some y ∧ (y < 0 ∨ Sm s) := by
  have hn := h.n
  unfold F_laws_szStructure
  have hnodes : ∃ y, F_laws_szNodeS s.1 1048576 = some y ∧ ((y = -1) ∨ (0 ≤ y ∧ y ≤ 1048576 ∧ s.1.length ≤ 1048576 ∧ ∀ i, i < s.1.length → (s.1.getD i dN).1.length ≤ 1048576 ∧ (s.1.getD i dN).2.1.length ≤ 1048576)) := by
    unfold F_laws_szNodeS
    rw [wi_in _ (by omega)]
    by_cases e : (1048576 : Int) - (s.1.length : Int) < 0
    · rw [if_pos e]; exact ⟨_, rfl, .inl rfl⟩
    · rw [if_neg e]
      rcases loopR_inv (body := fun st : Int × Int => F_laws_szNodeS_b1 s.1 st.1 st.2) (s0 := ((1048576 : Int) - (s.1.length : Int), 0)) (PO := fun st => 0 ≤ st.1 ∧ st.1 ≤ 1048576 ∧ ∀ i, i < s.1.length → (s.1.getD i dN).1.length ≤ 1048576 ∧ (s.1.getD i dN).2.1.length ≤ 1048576) (PR := fun r => r = -1)
        (fun j st => st.2 = (j : Int) ∧ 0 ≤ st.1 ∧ st.1 ≤ 1048576 ∧ ∀ i, i < j → (s.1.getD i dN).1.length ≤ 1048576 ∧ (s.1.getD i dN).2.1.length ≤ 1048576) s.1.length (by omega) ⟨rfl, by simp only; omega, by simp only; omega, fun i h => absurd h (by omega)⟩ (by
          rintro j ⟨left, j1⟩ hj ⟨h1, h2, h3, h4⟩
          simp only at h1 h2 h3 h4
          subst h1
          unfold F_laws_szNodeS_b1
          simp only [Int.toNat_natCast]
          by_cases ej : j = s.1.length
          · subst ej
            exact .inl ⟨_, by rw [if_neg (by omega)], h2, h3, h4⟩
          · have hlt : j < s.1.length := by omega
            obtain ⟨y, ey, ky⟩ := sz_node (x := s.1.getD j dN) (left := left) (h.r1 j) (h.r2 j) ⟨h2, h3⟩
            rw [if_pos (cl hlt), grd_t ⟨c0 _, cl hlt⟩, ey]
            simp only [Option.bind_some]
            rcases ky with rfl | ⟨a, b, c, d⟩
            · exact .inr (.inl ⟨_, by rw [if_pos (by omega)], rfl⟩)
            · refine .inr (.inr ⟨hlt, _, by rw [if_neg (by omega), wi_succ j (by omega)], rfl, a, by show y ≤ _; omega, fun i hi => ?_⟩)
              by_cases ei : i = j
              · subst ei; exact ⟨c, d⟩
              · exact h4 i (by omega)) with ⟨s', hs, a, b, c⟩ | ⟨r, hs, rfl⟩
      · rw [hs]; exact ⟨_, rfl, .inr ⟨a, b, by omega, c⟩⟩
      · rw [hs]; exact ⟨_, rfl, .inl rfl⟩
  obtain ⟨y1, e1, k1⟩ := hnodes
  rw [e1]
  simp only [Option.bind_some]
  rcases k1 with rfl | ⟨a, b, c, d⟩
  · exact ⟨_, by rw [if_pos (by omega)], .inl (by omega)⟩
  · rw [if_neg (by omega)]
    obtain ⟨y2, e2, k2⟩ := sz_row (left := y1) h.x (by omega)
    rw [e2]
    simp only [Option.bind_some]
    rcases k2 with rfl | ⟨a2, b2, c2⟩
    · exact ⟨_, by rw [if_pos (by omega)], .inl (by omega)⟩
    · refine ⟨_, by rw [if_neg (by omega)], .inr ⟨c, c2, fun i => ?_, fun i => ?_⟩⟩
      · by_cases hi : i < s.1.length
        · exact (d i hi).1
        · simp [List.getD_eq_getElem?_getD, List.getElem?_eq_none (Nat.le_of_not_lt hi)]
      · by_cases hi : i < s.1.length
        · exact (d i hi).2
        · simp [List.getD_eq_getElem?_getD, List.getElem?_eq_none (Nat.le_of_not_lt hi)]
/-! ### what is a structure -/
def Tr (l : List Int) : Prop := ∀ k, k < l.length → 0 ≤ l.getD k 0 ∧ l.getD k 0 ≤ 2
def NodeOk (vars : Int) (x : NodeD) : Prop := (x.1.length : Int) = vars ∧ (x.2.1.length : Int) = vars ∧ Tr x.1 ∧ Tr x.2.1 ∧ (0 ≤ x.2.2.1 ∧ x.2.2.1 ≤ 2) ∧ (0 ≤ x.2.2.2 ∧ x.2.2.2 ≤ 1)
def IsStr (vars : Int) (s : SD) : Prop := (1 ≤ vars ∧ vars ≤ 4) ∧ s.1.length ≤ 10 ∧ s.2.length = s.1.length * s.1.length ∧ Tr s.2 ∧ ∀ i, i < s.1.length → NodeOk vars (s.1.getD i dN)
theorem isTruth_eq (a : Int) : F_spec_IsTruth a = some (decide (0 ≤ a ∧ a ≤ 2)) := by
  unfold F_spec_IsTruth; rw [f_l1In]; rfl
theorem truths_eq {l : List Int} (h : l.length ≤ 1000000000) : ∃ b, F_spec_l12Truths l = some b ∧ (b = true ↔ Tr l) := by
  unfold F_spec_l12Truths
  rcases all_loop (body := fun st => F_spec_l12Truths_b1 l st) l.length h (fun k => 0 ≤ l.getD k 0 ∧ l.getD k 0 ≤ 2) (fun k hk => by
    unfold F_spec_l12Truths_b1
    simp only [Int.toNat_natCast]
    rw [if_pos (cl hk), grd_t ⟨c0 _, cl hk⟩, isTruth_eq]
    simp only [Option.bind_some, decide_eq_true_eq]
    by_cases e : 0 ≤ l.getD k 0 ∧ l.getD k 0 ≤ 2
    · rw [if_pos e]; exact .inl ⟨e, by rw [wi_succ k (by omega)]⟩
    · rw [if_neg e]; exact .inr ⟨e, rfl⟩) ⟨_, by unfold F_spec_l12Truths_b1; rw [if_neg (by omega)]⟩ with ⟨j, h1, h2⟩ | ⟨h1, h2⟩
  · rw [h1]; exact ⟨true, rfl, by simp only [true_iff]; exact h2⟩
  · rw [h1]; exact ⟨false, rfl, by simp only [Bool.false_eq_true, false_iff]; exact h2⟩
theorem specStr {s : SD} {vars : Int} (h : Sm s) : ∃ b, F_spec_IsStructure vars s = some b ∧ (b = true ↔ IsStr vars s) := by
  have hn := h.n
  have hx := h.x
  unfold F_spec_IsStructure
  rcases all_loop (body := fun st => F_spec_IsStructure_b1 s vars st) s.1.length (by omega) (fun k => NodeOk vars (s.1.getD k dN)) (fun k hk => by
    unfold F_spec_IsStructure_b1
    simp only [Int.toNat_natCast]
    rw [if_pos (cl hk), grd_t ⟨c0 _, cl hk⟩]
    obtain ⟨b1, e1, k1⟩ := truths_eq (l := (s.1.getD k dN).1) (by have := h.r1 k; omega)
    obtain ⟨b2, e2, k2⟩ := truths_eq (l := (s.1.getD k dN).2.1) (by have := h.r2 k; omega)
    by_cases c1 : ((s.1.getD k dN).1.length : Int) = vars
    rotate_left
    · rw [if_neg c1]; exact .inr ⟨fun hh => c1 hh.1, rfl⟩
    rw [if_pos c1]
    by_cases c2 : ((s.1.getD k dN).2.1.length : Int) = vars
    rotate_left
    · rw [if_neg c2]; exact .inr ⟨fun hh => c2 hh.2.1, rfl⟩
    rw [if_pos c2, e1]
    simp only [Option.bind_some]
    by_cases c3 : b1 = true
    rotate_left
    · rw [if_neg c3]; exact .inr ⟨fun hh => c3 (k1.2 hh.2.2.1), rfl⟩
    rw [if_pos c3, e2]
    simp only [Option.bind_some]
    by_cases c4 : b2 = true
    rotate_left
    · rw [if_neg c4]; exact .inr ⟨fun hh => c4 (k2.2 hh.2.2.2.1), rfl⟩
    rw [if_pos c4, isTruth_eq]
    simp only [Option.bind_some, decide_eq_true_eq]
    by_cases c5 : 0 ≤ (s.1.getD k dN).2.2.1 ∧ (s.1.getD k dN).2.2.1 ≤ 2
    rotate_left
    · rw [if_neg c5]; exact .inr ⟨fun hh => c5 hh.2.2.2.2.1, rfl⟩
    rw [if_pos c5, f_l1In]
    simp only [Option.bind_some, decide_eq_true_eq]
    by_cases c6 : 0 ≤ (s.1.getD k dN).2.2.2 ∧ (s.1.getD k dN).2.2.2 ≤ 1
    rotate_left
    · rw [if_neg c6]; exact .inr ⟨fun hh => c6 hh.2.2.2.2.2, rfl⟩
    rw [if_pos c6]
    exact .inl ⟨⟨c1, c2, k1.1 c3, k2.1 c4, c5, c6⟩, by rw [wi_succ k (by omega)]⟩) ⟨_, by unfold F_spec_IsStructure_b1; rw [if_neg (by omega)]⟩ with ⟨j, h1, h2⟩ | ⟨h1, h2⟩
  · rw [h1]
    simp only [Option.bind_some, Sum.elim_inr, f_l1In, decide_eq_true_eq]
    by_cases c1 : 1 ≤ vars ∧ vars ≤ 4
    rotate_left
    · rw [if_neg c1]; exact ⟨false, rfl, by simp only [Bool.false_eq_true, false_iff]; exact fun hh => c1 hh.1⟩
    rw [if_pos c1]
    by_cases c2 : (s.1.length : Int) ≤ 10
    rotate_left
    · rw [if_neg c2]; exact ⟨false, rfl, by simp only [Bool.false_eq_true, false_iff]; exact fun hh => c2 (by have := hh.2.1; omega)⟩
    rw [if_pos c2, wi_nn (by omega)]
    by_cases c3 : s.2.length = s.1.length * s.1.length
    rotate_left
    · rw [if_neg (by omega)]; exact ⟨false, rfl, by simp only [Bool.false_eq_true, false_iff]; exact fun hh => c3 hh.2.2.1⟩
    rw [if_pos (by omega)]
    obtain ⟨b, eb, kb⟩ := truths_eq (l := s.2) (by omega)
    rw [eb]
    exact ⟨b, rfl, by rw [kb]; exact ⟨fun ht => ⟨c1, by omega, c3, ht, h2⟩, fun hh => hh.2.2.2.1⟩⟩
  · rw [h1]
    exact ⟨false, rfl, by simp only [Bool.false_eq_true, false_iff]; exact fun hh => h2 hh.2.2.2.2⟩
theorem iTruth_eq (a : Int) : F_impl_IsTruth a = some (decide (0 ≤ a ∧ a ≤ 2)) := by
  unfold F_impl_IsTruth; rw [f_within]; rfl
/-- The first place where something holds. -/
theorem index_loop {body : Int → Option (Ctl Int Int)} (m : Nat) (hm : m ≤ 1000000000) (p : Nat → Prop) (hb : ∀ k, k < m → (¬ p k ∧ body (k : Int) = some (.go ((k + 1 : Nat) : Int))) ∨ (p k ∧ body (k : Int) = some (.ret (k : Int)))) (ho : ∃ j, body (m : Int) = some (.out j)) :
    (∃ j, loopR body fuel 0 = some (.inr j) ∧ ∀ k, k < m → ¬ p k) ∨ (∃ k : Nat, loopR body fuel 0 = some (.inl (k : Int)) ∧ k < m ∧ p k ∧ ∀ i, i < k → ¬ p i) := by
  rcases loopR_inv (body := body) (s0 := 0) (PO := fun _ => ∀ k, k < m → ¬ p k) (PR := fun r => ∃ k : Nat, r = (k : Int) ∧ k < m ∧ p k ∧ ∀ i, i < k → ¬ p i) (fun j s => s = (j : Int) ∧ ∀ k, k < j → ¬ p k) m (by omega) ⟨rfl, fun k h => absurd h (by omega)⟩ (by
    rintro j s hj ⟨rfl, h⟩
    by_cases e : j = m
    · subst e
      obtain ⟨j', ho⟩ := ho
      exact .inl ⟨_, ho, h⟩
    · rcases hb j (by omega) with ⟨h1, h2⟩ | ⟨h1, h2⟩
      · refine .inr (.inr ⟨by omega, _, h2, rfl, fun k hk => ?_⟩)
        by_cases ek : k = j
        · subst ek; exact h1
        · exact h k (by omega)
      · exact .inr (.inl ⟨_, h2, j, rfl, by omega, h1, h⟩)) with ⟨s', hs, hp⟩ | ⟨r, hs, k, rfl, hk⟩
  · exact .inl ⟨s', hs, hp⟩
  · exact .inr ⟨k, hs, hk⟩
theorem areTruths_eq {l : List Int} (h : l.length ≤ 1000000000) : ∃ b, F_impl_areTruths l = some b ∧ (b = true ↔ Tr l) := by
  unfold F_impl_areTruths F_slices_ContainsFunc_int_int F_slices_IndexFunc_int_int
  rcases index_loop (body := fun st => F_slices_IndexFunc_int_int_b1 l (fun x1 => F_impl_areTruths_1 x1) st) l.length h (fun k => ¬ (0 ≤ l.getD k 0 ∧ l.getD k 0 ≤ 2)) (fun k hk => by
    unfold F_slices_IndexFunc_int_int_b1 F_impl_areTruths_1
    simp only [Int.toNat_natCast]
    rw [if_pos (cl hk), grd_t ⟨c0 _, cl hk⟩, iTruth_eq]
    simp only [Option.bind_some]
    by_cases e : 0 ≤ l.getD k 0 ∧ l.getD k 0 ≤ 2
    · rw [decide_eq_true e]; exact .inl ⟨fun hh => hh e, by rw [if_neg (by simp), wi_succ k (by omega)]⟩
    · rw [decide_eq_false e]; exact .inr ⟨e, by rw [if_pos (by simp)]⟩) ⟨_, by unfold F_slices_IndexFunc_int_int_b1; rw [if_neg (by omega)]⟩ with ⟨j, h1, h2⟩ | ⟨k, h1, hk, h2, _⟩
  · rw [h1]
    refine ⟨true, rfl, by simp only [true_iff]; exact fun k hk => Classical.byContradiction fun hh => h2 k hk hh⟩
  · rw [h1]
    refine ⟨false, ?_, by simp only [Bool.false_eq_true, false_iff]; exact fun hh => h2 (hh k hk)⟩
    simp only [Option.bind_some, Sum.elim_inl]
    rw [decide_eq_true (show (k : Int) ≥ 0 by omega)]; rfl
theorem implStr1 {x : NodeD} {vars : Int} (h1 : x.1.length ≤ 1000000000) (h2 : x.2.1.length ≤ 1000000000) : ∃ b, F_impl_IsStructure_1 x vars = some b ∧ (b = true ↔ ¬ NodeOk vars x) := by
  unfold F_impl_IsStructure_1
  obtain ⟨b1, e1, k1⟩ := areTruths_eq (l := x.1) h1
  obtain ⟨b2, e2, k2⟩ := areTruths_eq (l := x.2.1) h2
  by_cases c1 : (x.1.length : Int) = vars
  rotate_left
  · rw [if_neg c1]; exact ⟨true, rfl, by simp only [true_iff]; exact fun hh => c1 hh.1⟩
  rw [if_pos c1]
  by_cases c2 : (x.2.1.length : Int) = vars
  rotate_left
  · rw [if_neg c2]; exact ⟨true, rfl, by simp only [true_iff]; exact fun hh => c2 hh.2.1⟩
  rw [if_pos c2, e1]
  simp only [Option.bind_some]
  by_cases c3 : b1 = true
  rotate_left
  · rw [if_neg c3]; exact ⟨true, rfl, by simp only [true_iff]; exact fun hh => c3 (k1.2 hh.2.2.1)⟩
  rw [if_pos c3, e2]
  simp only [Option.bind_some]
  by_cases c4 : b2 = true
  rotate_left
  · rw [if_neg c4]; exact ⟨true, rfl, by simp only [true_iff]; exact fun hh => c4 (k2.2 hh.2.2.2.1)⟩
  rw [if_pos c4, iTruth_eq]
  simp only [Option.bind_some, decide_eq_true_eq]
  by_cases c5 : 0 ≤ x.2.2.1 ∧ x.2.2.1 ≤ 2
  rotate_left
  · rw [if_neg c5]; exact ⟨true, rfl, by simp only [true_iff]; exact fun hh => c5 hh.2.2.2.2.1⟩
  rw [if_pos c5]
  by_cases c6 : x.2.2.2 = 0
  · rw [if_pos c6]; exact ⟨false, rfl, by simp only [Bool.false_eq_true, false_iff, Classical.not_not]; exact ⟨c1, c2, k1.1 c3, k2.1 c4, c5, by omega⟩⟩
  · rw [if_neg c6]
    refine ⟨_, rfl, ?_⟩
    by_cases c7 : x.2.2.2 = 1
    · simp only [c7, decide_true, Bool.not_true, Bool.false_eq_true, false_iff, Classical.not_not]; exact ⟨c1, c2, k1.1 c3, k2.1 c4, c5, by omega⟩
    · simp only [c7, decide_false, Bool.not_false, true_iff]; exact fun hh => by have := hh.2.2.2.2.2; omega
theorem implStr {s : SD} {vars : Int} (h : Sm s) : ∃ b, F_impl_IsStructure vars s = some b ∧ (b = true ↔ IsStr vars s) := by
  have hn := h.n
  have hx := h.x
  unfold F_impl_IsStructure
  rw [f_within]
  simp only [Option.bind_some, decide_eq_true_eq]
  by_cases c1 : 1 ≤ vars ∧ vars ≤ 4
  rotate_left
  · rw [if_neg c1]; exact ⟨false, rfl, by simp only [Bool.false_eq_true, false_iff]; exact fun hh => c1 hh.1⟩
  rw [if_pos c1]
  by_cases c2 : (s.1.length : Int) > 10
  · rw [if_pos c2]; exact ⟨false, rfl, by simp only [Bool.false_eq_true, false_iff]; exact fun hh => by have := hh.2.1; omega⟩
  rw [if_neg c2, wi_nn (by omega)]
  by_cases c3 : s.2.length = s.1.length * s.1.length
  rotate_left
  · rw [if_neg (by omega)]; exact ⟨false, rfl, by simp only [Bool.false_eq_true, false_iff]; exact fun hh => c3 hh.2.2.1⟩
  rw [if_pos (by omega)]
  obtain ⟨b, eb, kb⟩ := areTruths_eq (l := s.2) (by omega)
  rw [eb]
  simp only [Option.bind_some]
  by_cases c4 : b = true
  rotate_left
  · rw [if_neg c4]; exact ⟨false, rfl, by simp only [Bool.false_eq_true, false_iff]; exact fun hh => c4 (kb.2 hh.2.2.2.1)⟩
  rw [if_pos c4]
  unfold F_slices_ContainsFunc_Node_Node F_slices_IndexFunc_Node_Node
  rcases index_loop (body := fun st => F_slices_IndexFunc_Node_Node_b1 s.1 (fun x23 => F_impl_IsStructure_1 x23 vars) st) s.1.length (by omega) (fun k => ¬ NodeOk vars (s.1.getD k dN)) (fun k hk => by
    obtain ⟨b, e, kb⟩ := implStr1 (x := s.1.getD k dN) (vars := vars) (by have := h.r1 k; omega) (by have := h.r2 k; omega)
    unfold F_slices_IndexFunc_Node_Node_b1
    simp only [Int.toNat_natCast]
    rw [if_pos (cl hk), grd_t ⟨c0 _, cl hk⟩, e]
    simp only [Option.bind_some]
    cases b with
    | true => exact .inr ⟨kb.1 rfl, by rw [if_pos rfl]⟩
    | false => exact .inl ⟨fun hh => (by have := kb.2 hh; cases this), by rw [if_neg (by simp), wi_succ k (by omega)]⟩) ⟨_, by unfold F_slices_IndexFunc_Node_Node_b1; rw [if_neg (by omega)]⟩ with ⟨j, h1, h2⟩ | ⟨k, h1, hk, h2, _⟩
  · rw [h1]
    exact ⟨true, rfl, by simp only [true_iff]; exact ⟨c1, by omega, c3, kb.1 c4, fun i hi => Classical.byContradiction fun hh => h2 i hi hh⟩⟩
  · rw [h1]
    refine ⟨false, ?_, by simp only [Bool.false_eq_true, false_iff]; exact fun hh => h2 (hh.2.2.2.2 k hk)⟩
    simp only [Option.bind_some, Sum.elim_inl]
    rw [decide_eq_true (show (k : Int) ≥ 0 by omega)]; rfl
end Go.Proofs.Ytpfibofoeblapaa
