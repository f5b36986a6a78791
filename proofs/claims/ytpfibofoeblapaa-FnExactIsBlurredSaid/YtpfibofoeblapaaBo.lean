/- The order of strings; insertion sort. -/
import Derived.Test.YtpfibofoeblapaaAr
import Derived.Lib.Strings
set_option linter.unusedVariables false
set_option linter.unusedSimpArgs false
namespace Go.Proofs.Ytpfibofoeblapaa
open Go
theorem bl_irrefl : ∀ l : List UInt8, Op.bytesLess l l = false
  | [] => rfl
  | a :: l => by simp [Op.bytesLess, bl_irrefl l]
theorem bl_trans : ∀ {a b c : List UInt8}, Op.bytesLess a b = true → Op.bytesLess b c = true → Op.bytesLess a c = true
  | _, [], _, h, _ => by cases ‹List UInt8› <;> simp [Op.bytesLess] at h
  | _, _ :: _, [], _, h => by simp [Op.bytesLess] at h
  | [], _ :: _, _ :: _, _, _ => rfl
  | x :: a, y :: b, z :: c, h1, h2 => by
    simp only [Op.bytesLess, Bool.or_eq_true, Bool.and_eq_true, decide_eq_true_eq, beq_iff_eq] at h1 h2 ⊢
    rcases h1 with h1 | ⟨rfl, h1⟩ <;> rcases h2 with h2 | ⟨rfl, h2⟩
    · exact .inl (UInt8.lt_trans h1 h2)
    · exact .inl h1
    · exact .inl h2
    · exact .inr ⟨rfl, bl_trans h1 h2⟩
theorem bl_tri : ∀ {a b : List UInt8}, Op.bytesLess a b = false → Op.bytesLess b a = false → a = b
  | [], [], _, _ => rfl
  | [], _ :: _, h, _ => by simp [Op.bytesLess] at h
  | _ :: _, [], _, h => by simp [Op.bytesLess] at h
  | x :: a, y :: b, h1, h2 => by
    simp only [Op.bytesLess, Bool.or_eq_false_iff, Bool.and_eq_false_iff, decide_eq_false_iff_not, beq_eq_false_iff_ne] at h1 h2
    have e : x = y := UInt8.le_antisymm (UInt8.not_lt.1 h2.1) (UInt8.not_lt.1 h1.1)
    subst e
    have k1 : Op.bytesLess a b = false := h1.2.resolve_left fun h => h rfl
    have k2 : Op.bytesLess b a = false := h2.2.resolve_left fun h => h rfl
    rw [bl_tri k1 k2]
theorem cmp_bl : ∀ {a b : List UInt8}, Lib.compareBytes a b < 0 ↔ Op.bytesLess a b = true
  | [], [] => by simp [Lib.compareBytes, Op.bytesLess]
  | [], _ :: _ => by simp [Lib.compareBytes, Op.bytesLess]
  | _ :: _, [] => by simp [Lib.compareBytes, Op.bytesLess]
  | x :: a, y :: b => by
    simp only [Lib.compareBytes, Op.bytesLess, Bool.or_eq_true, Bool.and_eq_true, decide_eq_true_eq, beq_iff_eq]
    by_cases h : x < y
    · simp [h]
    · by_cases h' : y < x
      · have : x ≠ y := fun e => by subst e; exact absurd h' (UInt8.lt_irrefl _)
        simp [h, h', this]
      · have e : x = y := UInt8.le_antisymm (UInt8.not_lt.1 h') (UInt8.not_lt.1 h)
        subst e
        simp [UInt8.lt_irrefl, cmp_bl]
def lt (a b : ByteArray) : Prop := Op.bytesLess a.toList b.toList = true
instance (a b : ByteArray) : Decidable (lt a b) := inferInstanceAs (Decidable (_ = true))
theorem eq_toList {a b : ByteArray} : a.toList = b.toList ↔ a = b := by
  rw [Lib.toList_data, Lib.toList_data]
  constructor
  · intro h
    obtain ⟨⟨x⟩⟩ := a; obtain ⟨⟨y⟩⟩ := b
    simpa using h
  · rintro rfl; rfl
theorem lt_irrefl (a : ByteArray) : ¬ lt a a := by unfold lt; rw [bl_irrefl]; simp
theorem lt_trans' {a b c : ByteArray} (h : lt a b) (k : lt b c) : lt a c := bl_trans h k
theorem lt_tri {a b : ByteArray} (h : ¬ lt a b) (k : ¬ lt b a) : a = b := eq_toList.1 (bl_tri (by simpa [lt] using h) (by simpa [lt] using k))
theorem lt_cmp {a b : ByteArray} : Lib.compareBytes a.data.toList b.data.toList < 0 ↔ lt a b := by
  unfold lt; rw [Lib.toList_data, Lib.toList_data]; exact cmp_bl
def le (a b : ByteArray) : Prop := ¬ lt b a
theorem le_trans' {a b c : ByteArray} (h : le a b) (k : le b c) : le a c := by
  intro hc
  by_cases e : lt a b
  · exact k (lt_trans' hc e)
  · have := lt_tri e h
    subst this; exact k hc
theorem lt_le {a b : ByteArray} (h : lt a b) : le a b := fun k => lt_irrefl _ (lt_trans' h k)
abbrev cmpF : ByteArray → ByteArray → Option Int := fun x y => F_strings_Compare x y
theorem getD_mid {A B : List ByteArray} {x : ByteArray} : (A ++ x :: B).getD A.length ByteArray.empty = x := by simp [List.getD_eq_getElem?_getD]
theorem set_mid {A B : List ByteArray} {x y : ByteArray} : (A ++ x :: B).set A.length y = A ++ y :: B := by simp
/-- One element is brought to its place. -/
theorem ins_in {C : List ByteArray} (hC : C.length ≤ 1000) : ∀ (A B : List ByteArray) (x : ByteArray), A.length ≤ 1000 → B.length ≤ 1000 → (A ++ B).Pairwise le → (∀ b ∈ B, lt x b) →
    ∃ D j, loopO (fun st => F_slices_insertionSortCmpFunc_string_b1 0 cmpF st.1 st.2) fuel (A ++ x :: (B ++ C), (A.length : Int)) = some (D ++ C, j) ∧ D.Perm (x :: (A ++ B)) ∧ D.Pairwise le := by
  intro A B x hA hB hs hx
  obtain ⟨⟨d, j⟩, h1, D, h2, h3, h4⟩ := loopO_inv (body := fun st : List ByteArray × Int => F_slices_insertionSortCmpFunc_string_b1 0 cmpF st.1 st.2) (s0 := (A ++ x :: (B ++ C), (A.length : Int)))
    (PO := fun st => ∃ D, st.1 = D ++ C ∧ D.Perm (x :: (A ++ B)) ∧ D.Pairwise le)
    (fun i st => ∃ A' B', st.1 = A' ++ x :: (B' ++ C) ∧ st.2 = (A'.length : Int) ∧ A'.length + i = A.length ∧ A' ++ B' = A ++ B ∧ ∀ b ∈ B', lt x b) A.length (by omega) ⟨A, B, rfl, rfl, rfl, rfl, hx⟩ (by
      rintro i ⟨d, j⟩ hi ⟨A', B', h1, h2, h3, h4, h5⟩
      simp only at h1 h2
      subst h1 h2
      unfold F_slices_insertionSortCmpFunc_string_b1
      have done : (∀ y, A'.getLast? = some y → le y x) → (A' ++ x :: B').Perm (x :: (A ++ B)) ∧ (A' ++ x :: B').Pairwise le := by
        intro hl
        refine ⟨by rw [← h4]; exact List.perm_middle, ?_⟩
        rw [← h4] at hs
        obtain ⟨s1, s2, s3⟩ := List.pairwise_append.1 hs
        refine List.pairwise_append.2 ⟨s1, List.pairwise_cons.2 ⟨fun b hb => lt_le (h5 b hb), s2⟩, fun a ha b hb => ?_⟩
        have hax : le a x := by
          rcases List.eq_nil_or_concat A' with rfl | ⟨A2, y, rfl⟩
          · simp at ha
          · have hy : le y x := hl y (by simp)
            rcases List.mem_append.1 (by simpa using ha : a ∈ A2 ++ [y]) with h | h
            · exact le_trans' ((List.pairwise_append.1 (by simpa using s1 : (A2 ++ [y]).Pairwise le)).2.2 a h y (by simp)) hy
            · rw [List.mem_singleton.1 h]; exact hy
        rcases List.mem_cons.1 hb with rfl | hb
        · exact hax
        · exact s3 a ha b hb
      rcases List.eq_nil_or_concat A' with rfl | ⟨A2, y, rfl⟩
      · refine .inl ⟨_, by rw [if_neg (by simp)], x :: B', by simp, ?_⟩
        exact done (by simp)
      · simp only [List.concat_eq_append] at *
        have hl : (A2 ++ [y]).length = A2.length + 1 := by simp
        have hlen : (A2 ++ [y]).length ≤ 1000 := by omega
        have e0 : A2 ++ [y] ++ x :: (B' ++ C) = A2 ++ y :: x :: (B' ++ C) := by simp
        have ew : wi (((A2 ++ [y]).length : Int) - 1) = (A2.length : Int) := by rw [wi_in _ (by omega)]; omega
        have g1 : (A2 ++ [y] ++ x :: (B' ++ C)).getD (A2 ++ [y]).length ByteArray.empty = x := getD_mid
        have g2 : (A2 ++ [y] ++ x :: (B' ++ C)).getD A2.length ByteArray.empty = y := by rw [e0]; exact getD_mid
        have gl : (A2 ++ [y]).length < (A2 ++ [y] ++ x :: (B' ++ C)).length := by simp
        rw [if_pos (by omega), ew]
        simp only [Int.toNat_natCast, g1, g2]
        rw [grd_t ⟨c0 _, cl gl⟩, grd_t ⟨c0 _, cl (by omega)⟩]
        simp only [cmpF, F_strings_Compare, Option.bind_some]
        by_cases hlt : lt x y
        · refine .inr ⟨by omega, ?_⟩
          rw [if_pos (lt_cmp.2 hlt), grd_t ⟨c0 _, cl (by rw [List.length_set]; omega)⟩]
          refine ⟨_, rfl, A2, y :: B', ?_, rfl, by omega, by simpa using h4, ?_⟩
          · show ((A2 ++ [y] ++ x :: (B' ++ C)).set (A2 ++ [y]).length y).set A2.length x = _
            rw [set_mid, show A2 ++ [y] ++ y :: (B' ++ C) = A2 ++ y :: (y :: (B' ++ C)) from by simp, set_mid]
            simp
          · intro b hb
            rcases List.mem_cons.1 hb with rfl | hb
            · exact hlt
            · exact h5 b hb
        · rw [if_neg (fun h => hlt (lt_cmp.1 h))]
          refine .inl ⟨_, rfl, A2 ++ [y] ++ x :: B', by simp, ?_⟩
          exact done (fun z hz => by
            have : y = z := by simpa using hz
            rw [← this]; exact hlt))
  have h2 : d = D ++ C := h2
  subst h2
  exact ⟨D, j, h1, h3, h4⟩
theorem ins_sort {l : List ByteArray} (hl : l.length ≤ 12) : ∃ r, F_slices_SortFunc_string_string l cmpF = some r ∧ r.Perm l ∧ r.Pairwise le := by
  have hins : ∃ r, F_slices_insertionSortCmpFunc_string l 0 (l.length : Int) cmpF = some r ∧ r.Perm l ∧ r.Pairwise le := by
    unfold F_slices_insertionSortCmpFunc_string
    rw [wi_in _ (by omega)]
    obtain ⟨⟨d, j⟩, h1, h2, h3⟩ := loopO_inv (body := fun st : List ByteArray × Int => F_slices_insertionSortCmpFunc_string_b2 (l.length : Int) 0 cmpF st.1 st.2) (s0 := (l, 0 + 1)) (PO := fun st => st.1.Perm l ∧ st.1.Pairwise le)
      (fun i st => st.2 = ((i + 1 : Nat) : Int) ∧ ∃ D C, st.1 = D ++ C ∧ (D.length = i + 1 ∨ l = []) ∧ st.1.Perm l ∧ D.Pairwise le) l.length (by omega) ⟨rfl, l.take 1, l.drop 1, (List.take_append_drop 1 l).symm, by
        cases l with
        | nil => exact .inr rfl
        | cons a l => exact .inl (by simp), by simp, by
        cases l with
        | nil => simp
        | cons a l => simp⟩ (by
        rintro i ⟨d, j⟩ hi ⟨h1, D, C, h2, h3, h4, h5⟩
        simp only at h1 h2 h4
        subst h1 h2
        have hlen := h4.length_eq
        unfold F_slices_insertionSortCmpFunc_string_b2
        by_cases he : i + 1 < l.length
        · refine .inr ⟨by omega, ?_⟩
          rw [if_pos (cl he)]
          have h3' : D.length = i + 1 := by
            rcases h3 with h | h
            · exact h
            · subst h; simp at he
          cases C with
          | nil => simp at hlen; omega
          | cons x C =>
            have hC : C.length ≤ 1000 := by simp at hlen; omega
            obtain ⟨D', j', q1, q2, q3⟩ := ins_in (C := C) hC D [] x (by omega) (by simp) (by simpa using h5) (by simp)
            rw [h3', List.nil_append] at q1
            have e : (fun st : List ByteArray × Int => F_slices_insertionSortCmpFunc_string_b1 0 cmpF st.1 st.2) = fun st => F_slices_insertionSortCmpFunc_string_b1 0 cmpF st.1 st.2 := rfl
            rw [q1]
            simp only [Option.bind_some]
            refine ⟨_, by rw [wi_succ (i + 1) (by omega)], rfl, D', C, rfl, .inl ?_, ?_, q3⟩
            · have := q2.length_eq; simp at this; omega
            · refine List.Perm.trans ?_ h4
              refine (q2.append_right C).trans ?_
              simpa using List.perm_middle.symm
        · refine .inl ⟨_, by rw [if_neg (by omega)], h4, ?_⟩
          rcases h3 with h | h
          · have : C = [] := by
              have hc : C.length = 0 := by simp at hlen; omega
              exact List.eq_nil_of_length_eq_zero hc
            subst this; simpa using h5
          · subst h
            have : D ++ C = [] := h4.eq_nil
            show (D ++ C).Pairwise le
            rw [this]; exact .nil)
    exact ⟨d, by rw [h1]; rfl, h2, h3⟩
  obtain ⟨r, h1, h2, h3⟩ := hins
  refine ⟨r, ?_, h2, h3⟩
  unfold F_slices_SortFunc_string_string F_math_bits_Len
  rw [grd_t ⟨c0 _, by omega⟩, if_pos ⟨c0 _, by omega⟩]
  simp only [Option.bind_some]
  have hb : F_slices_pdqsortCmpFunc_string_b1 (l.length : Int) 0 l cmpF = some (.ret r) := by
    unfold F_slices_pdqsortCmpFunc_string_b1
    rw [wi_in _ (by omega), if_pos (by omega), h1]
    rfl
  unfold F_slices_pdqsortCmpFunc_string
  rcases loopR_inv (body := fun _ : Unit => F_slices_pdqsortCmpFunc_string_b1 (l.length : Int) 0 l cmpF) (s0 := ()) (PO := fun _ => False) (PR := fun x => x = r) (fun _ _ => True) 1 (by omega) trivial (fun i s _ _ => .inr (.inl ⟨r, hb, rfl⟩)) with ⟨_, _, h⟩ | ⟨x, hx, rfl⟩
  · exact h.elim
  · rw [hx]; rfl
end Go.Proofs.Ytpfibofoeblapaa
