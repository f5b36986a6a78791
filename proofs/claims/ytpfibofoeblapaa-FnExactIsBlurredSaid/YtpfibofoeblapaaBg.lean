/- Nodes with one name. -/
import Derived.Test.YtpfibofoeblapaaBn
import Derived.Test.YtpfibofoeblapaaBo
set_option linter.unusedVariables false
set_option linter.unusedSimpArgs false
namespace Go.Proofs.Ytpfibofoeblapaa
open Go
section
variable (N : Nat → ByteArray)
def gr (i : Nat) (k : ByteArray) : List Int := ((List.range i).filter fun j => decide (N j = k)).map fun j : Nat => (j : Int)
theorem gr_succ (i : Nat) (k : ByteArray) : gr N (i + 1) k = if N i = k then gr N i k ++ [(i : Int)] else gr N i k := by
  unfold gr
  rw [List.range_succ, List.filter_append]
  split <;> rename_i h <;> simp [h]
theorem gr_len (i : Nat) (k : ByteArray) : (gr N i k).length ≤ i := by
  unfold gr
  rw [List.length_map]
  exact Nat.le_trans (List.length_filter_le _ _) (by simp)
theorem gr_mem {i : Nat} {k : ByteArray} {x : Int} (h : x ∈ gr N i k) : ∃ j : Nat, x = (j : Int) ∧ j < i ∧ N j = k := by
  unfold gr at h
  obtain ⟨j, h1, rfl⟩ := List.mem_map.1 h
  obtain ⟨h2, h3⟩ := List.mem_filter.1 h1
  exact ⟨j, rfl, List.mem_range.1 h2, of_decide_eq_true h3⟩
end
theorem mget_mput {m : Grp} {k k' : ByteArray} {x : List Int} : mget (mput m k x) k' = if k = k' then x else mget m k' := by
  induction m with
  | nil => simp [mput, mget]
  | cons p m ih =>
    unfold mput
    split
    · rename_i e
      subst e
      simp only [mget]
      split <;> rfl
    · rename_i e
      simp only [mget, ih]
      split
      · rename_i e2
        subst e2
        rw [if_neg (fun h => e h.symm)]
      · rfl
section
variable {v : Nat} {s : SD}
theorem i_groups (h : Bl v s) : ∃ m D, loopO (fun st : Grp × List ByteArray × Int => F_impl_Blur_b1 s st.1 st.2.1 st.2.2) fuel (([] : Grp), ([] : List ByteArray), 0) = some (m, D, (s.1.length : Int)) ∧
    (∀ k, mget m k = gr (nm s v) s.1.length k) ∧ D.Nodup ∧ (∀ k, k ∈ D ↔ gr (nm s v) s.1.length k ≠ []) ∧ D.length ≤ s.1.length := by
  have hn := h.n10
  obtain ⟨⟨m, D, j⟩, h1, h2⟩ := loopO_inv (body := fun st : Grp × List ByteArray × Int => F_impl_Blur_b1 s st.1 st.2.1 st.2.2) (s0 := (([] : Grp), ([] : List ByteArray), 0))
    (PO := fun st => st.2.2 = (s.1.length : Int) ∧ (∀ k, mget st.1 k = gr (nm s v) s.1.length k) ∧ st.2.1.Nodup ∧ (∀ k, k ∈ st.2.1 ↔ gr (nm s v) s.1.length k ≠ []) ∧ st.2.1.length ≤ s.1.length)
    (fun i st => st.2.2 = (i : Int) ∧ (∀ k, mget st.1 k = gr (nm s v) i k) ∧ st.2.1.Nodup ∧ (∀ k, k ∈ st.2.1 ↔ gr (nm s v) i k ≠ []) ∧ st.2.1.length ≤ i) s.1.length (by omega)
    ⟨rfl, fun k => rfl, List.nodup_nil, fun k => by simp [gr], Nat.le_refl _⟩ (by
      rintro i ⟨m, D, j⟩ hi ⟨h1, h2, h3, h4, h5⟩
      simp only at h1 h2 h3 h4 h5
      subst h1
      unfold F_impl_Blur_b1
      by_cases e : i = s.1.length
      · subst e
        exact .inl ⟨_, by simp only; rw [if_neg (by omega)], rfl, h2, h3, h4, h5⟩
      · have hlt : i < s.1.length := by omega
        refine .inr ⟨hlt, ?_⟩
        rw [if_pos (cl hlt), i_name h hlt]
        simp only [Option.bind_some]
        have hg := gr_len (nm s v) i (nm s v i)
        have hm : ∀ k, mget (mput m (nm s v i) (mget m (nm s v i) ++ [(i : Int)])) k = gr (nm s v) (i + 1) k := by
          intro k
          rw [mget_mput, gr_succ, h2, h2]
          split
          · rename_i e; subst e; rfl
          · rfl
        by_cases c : mget m (nm s v i) = []
        · rw [if_pos c, grd_t (by unfold lim; omega), grd_t (by rw [c]; unfold lim; simp)]
          refine ⟨_, by rw [wi_succ i (by omega)], rfl, hm, ?_, fun k => ?_, by simp only [List.length_append, List.length_singleton]; omega⟩
          · have hnm : nm s v i ∉ D := fun hd => (h4 _).1 hd (by rw [← h2]; exact c)
            refine List.nodup_append.2 ⟨h3, by simp, ?_⟩
            intro a ha b hb e2
            rw [List.mem_singleton.1 hb] at e2
            subst e2
            exact hnm ha
          · rw [List.mem_append, h4, gr_succ, List.mem_singleton]
            split
            · rename_i e; subst e; simp
            · rename_i e
              simp only [or_iff_left_iff_imp]
              intro e2; exact absurd e2.symm e
        · rw [if_neg c, grd_t (by rw [h2]; unfold lim; omega)]
          refine ⟨_, by rw [wi_succ i (by omega)], rfl, hm, h3, fun k => ?_, by simp only; omega⟩
          rw [h4, gr_succ]
          split
          · rename_i e; subst e
            rw [h2] at c
            simp [c]
          · rfl)
  obtain ⟨e, k1, k2, k3, k4⟩ := h2
  simp only at e k1 k2 k3 k4
  subst e
  exact ⟨m, D, h1, k1, k2, k3, k4⟩
/-- Where a name belongs. -/
theorem s_find {L : List ByteArray} {y : ByteArray} (hL : L.length ≤ 1000) : ∃ A B, L = A ++ B ∧ loopO (fun st => F_spec_l17Groups_b1 L y st) fuel 0 = some (A.length : Int) ∧ (∀ a ∈ A, lt a y) ∧ ∀ b, B.head? = some b → ¬ lt b y := by
  obtain ⟨j, h1, k, rfl, hk, h2, h3⟩ := loopO_inv (body := fun st => F_spec_l17Groups_b1 L y st) (s0 := (0 : Int)) (PO := fun st => ∃ k : Nat, st = (k : Int) ∧ k ≤ L.length ∧ (∀ a ∈ L.take k, lt a y) ∧ ∀ b, (L.drop k).head? = some b → ¬ lt b y)
    (fun k st => st = (k : Int) ∧ k ≤ L.length ∧ ∀ a ∈ L.take k, lt a y) L.length (by omega) ⟨rfl, Nat.zero_le _, by simp⟩ (by
      rintro k st hk ⟨rfl, h1, h2⟩
      unfold F_spec_l17Groups_b1
      by_cases e : k = L.length
      · subst e
        exact .inl ⟨_, by rw [if_neg (by omega)], L.length, rfl, Nat.le_refl _, h2, by simp⟩
      · have hlt : k < L.length := by omega
        rw [if_pos (cl hlt), grd_t ⟨c0 _, cl hlt⟩]
        simp only [Int.toNat_natCast]
        have hd : L.drop k = L.getD k ByteArray.empty :: L.drop (k + 1) := by
          rw [List.drop_eq_getElem_cons hlt]; simp [List.getD_eq_getElem?_getD, hlt]
        by_cases c : Op.bytesLess (L.getD k ByteArray.empty).toList y.toList = true
        · refine .inr ⟨hlt, _, by rw [if_pos c, wi_succ k (by omega)], rfl, hlt, fun a ha => ?_⟩
          rw [take_succ ByteArray.empty hlt] at ha
          rcases List.mem_append.1 ha with h | h
          · exact h2 a h
          · rw [List.mem_singleton.1 h]; exact c
        · refine .inl ⟨_, by rw [if_neg c], k, rfl, h1, h2, fun b hb => ?_⟩
          rw [hd] at hb
          have : L.getD k ByteArray.empty = b := by simpa using hb
          rw [← this]; exact c)
  refine ⟨L.take k, L.drop k, (List.take_append_drop k L).symm, ?_, h2, h3⟩
  rw [h1, List.length_take, Nat.min_eq_left hk]
theorem s_ins {A B : List ByteArray} {y : ByteArray} {g : ByteArray → List Int} {i : Nat} (hl : (A ++ B).length ≤ 1000) (hi : i ≤ 1000) :
    (grd (0 ≤ (A.length : Int) ∧ (A.length : Int) ≤ ((A ++ B).length : Int)) (grd ((([] : List ByteArray)).length + ((A ++ B).drop (A.length : Int).toNat).length ≤ lim) (grd (((A ++ B).take (A.length : Int).toNat).length < lim) (grd ((((A ++ B).take (A.length : Int).toNat) ++ [y]).length + ((([] : List ByteArray)) ++ ((A ++ B).drop (A.length : Int).toNat)).length ≤ lim) (grd (0 ≤ (A.length : Int) ∧ (A.length : Int) ≤ (((A ++ B).map g).length : Int)) (grd ((([] : List (List Int))).length + (((A ++ B).map g).drop (A.length : Int).toNat).length ≤ lim) (grd ((((A ++ B).map g).take (A.length : Int).toNat).length < lim) (grd (((((A ++ B).map g).take (A.length : Int).toNat) ++ [[(i : Int)]]).length + ((([] : List (List Int))) ++ (((A ++ B).map g).drop (A.length : Int).toNat)).length ≤ lim) (some (Ctl.go (ρ := Empty) ((((A ++ B).take (A.length : Int).toNat) ++ [y]) ++ ((([] : List ByteArray)) ++ ((A ++ B).drop (A.length : Int).toNat)), ((((A ++ B).map g).take (A.length : Int).toNat) ++ [[(i : Int)]]) ++ ((([] : List (List Int))) ++ (((A ++ B).map g).drop (A.length : Int).toNat)), wi ((i : Int) + 1)))))))))))) =
    some (.go (A ++ y :: B, A.map g ++ [(i : Int)] :: B.map g, ((i + 1 : Nat) : Int))) := by
  have t1 : (A ++ B).take A.length = A := by simp
  have d1 : (A ++ B).drop A.length = B := by simp
  have t2 : ((A ++ B).map g).take A.length = A.map g := by rw [← List.map_take, t1]
  have d2 : ((A ++ B).map g).drop A.length = B.map g := by rw [← List.map_drop, d1]
  have hl' : A.length + B.length ≤ 1000 := by simpa using hl
  simp only [Int.toNat_natCast, t1, d1, t2, d2, List.nil_append]
  rw [grd_t ⟨c0 _, by simp; omega⟩, grd_t (by simp [lim]; omega), grd_t (by simp [lim]; omega), grd_t (by simp [lim]; omega), grd_t ⟨c0 _, by simp; omega⟩, grd_t (by simp [lim]; omega), grd_t (by simp [lim]; omega), grd_t (by simp [lim]; omega), wi_succ i (by omega)]
  simp
theorem s_groups (h : Bl v s) : ∃ L : List ByteArray, F_spec_l17Groups s = some (L.map (gr (nm s v) s.1.length)) ∧ L.Pairwise lt ∧ (∀ k, k ∈ L ↔ gr (nm s v) s.1.length k ≠ []) := by
  have hn := h.n10
  unfold F_spec_l17Groups
  obtain ⟨⟨L0, O, j⟩, h1, L, h2, h3, h4⟩ := loopO_inv (body := fun st : List ByteArray × List (List Int) × Int => F_spec_l17Groups_b2 s st.1 st.2.1 st.2.2) (s0 := (([] : List ByteArray), ([] : List (List Int)), 0))
    (PO := fun st : List ByteArray × List (List Int) × Int => ∃ L : List ByteArray, st.2.1 = L.map (gr (nm s v) s.1.length) ∧ L.Pairwise lt ∧ (∀ k, k ∈ L ↔ gr (nm s v) s.1.length k ≠ []))
    (fun i st => st.2.2 = (i : Int) ∧ st.2.1 = st.1.map (gr (nm s v) i) ∧ st.1.Pairwise lt ∧ (∀ k, k ∈ st.1 ↔ gr (nm s v) i k ≠ []) ∧ st.1.length ≤ i) s.1.length (by omega)
    ⟨rfl, rfl, List.Pairwise.nil, fun k => by simp [gr], Nat.le_refl _⟩ (by
      rintro i ⟨L, O, j⟩ hi ⟨h1, h2, h3, h4, h5⟩
      simp only at h1 h2 h3 h4 h5
      subst h1 h2
      unfold F_spec_l17Groups_b2
      by_cases e : i = s.1.length
      · subst e
        exact .inl ⟨_, by simp only; rw [if_neg (by omega)], L, rfl, h3, h4⟩
      · have hlt : i < s.1.length := by omega
        refine .inr ⟨hlt, ?_⟩
        rw [if_pos (cl hlt), s_name h hlt]
        simp only [Option.bind_some]
        obtain ⟨A, B, rfl, q1, q2, q3⟩ := s_find (L := L) (y := nm s v i) (by omega)
        rw [q1]
        simp only [Option.bind_some]
        have hAB : A.length + B.length ≤ i := by simpa using h5
        have hA : A.map (gr (nm s v) (i + 1)) = A.map (gr (nm s v) i) := by
          refine List.map_congr_left fun a ha => ?_
          rw [gr_succ, if_neg (fun e => lt_irrefl a (by have := q2 a ha; rwa [e] at this))]
        obtain ⟨p1, p2, p3⟩ := List.pairwise_append.1 h3
        -- a new name
        have new : (∀ b ∈ B, lt (nm s v i) b) → ∃ s', (some (Ctl.go (ρ := Empty) (A ++ nm s v i :: B, A.map (gr (nm s v) i) ++ [(i : Int)] :: B.map (gr (nm s v) i), ((i + 1 : Nat) : Int)))) = some (.go s') ∧ s'.2.2 = ((i + 1 : Nat) : Int) ∧ s'.2.1 = s'.1.map (gr (nm s v) (i + 1)) ∧ s'.1.Pairwise lt ∧ (∀ k, k ∈ s'.1 ↔ gr (nm s v) (i + 1) k ≠ []) ∧ s'.1.length ≤ i + 1 := by
          intro hb
          have hnot : nm s v i ∉ A ++ B := by
            intro hm
            rcases List.mem_append.1 hm with h | h
            · exact lt_irrefl _ (q2 _ h)
            · exact lt_irrefl _ (hb _ h)
          have hg : gr (nm s v) i (nm s v i) = [] := by
            by_cases c : gr (nm s v) i (nm s v i) = []
            · exact c
            · exact absurd ((h4 _).2 c) hnot
          refine ⟨_, rfl, rfl, ?_, ?_, fun k => ?_, by simp; omega⟩
          · simp only [List.map_append, List.map_cons, hA]
            have hB : B.map (gr (nm s v) (i + 1)) = B.map (gr (nm s v) i) := by
              refine List.map_congr_left fun b hb' => ?_
              rw [gr_succ, if_neg (fun e => lt_irrefl b (by have := hb b hb'; rwa [e] at this))]
            rw [hB, gr_succ, if_pos rfl, hg, List.nil_append]
          · refine List.pairwise_append.2 ⟨p1, List.pairwise_cons.2 ⟨hb, p2⟩, fun a ha b hb' => ?_⟩
            rcases List.mem_cons.1 hb' with rfl | hb'
            · exact q2 a ha
            · exact p3 a ha b hb'
          · have := h4 k
            simp only [List.mem_append, List.mem_cons] at this ⊢
            rw [gr_succ]
            split
            · rename_i e; subst e; simp
            · rename_i e
              rw [← this]
              constructor
              · rintro (h | h | h)
                · exact .inl h
                · exact absurd h.symm e
                · exact .inr h
              · rintro (h | h)
                · exact .inl h
                · exact .inr (.inr h)
        cases B with
        | nil =>
          rw [if_neg (by simp), s_ins (by simp at hAB ⊢; omega) (by omega)]
          exact new (by simp)
        | cons b B =>
          have hb := q3 b rfl
          have hlen : A.length < (A ++ b :: B).length := by simp
          rw [if_pos (cl hlen), grd_t ⟨c0 _, cl hlen⟩]
          simp only [Int.toNat_natCast, getD_mid]
          by_cases c : b = nm s v i
          · subst c
            have gm : ((A ++ nm s v i :: B).map (gr (nm s v) i)).getD A.length [] = gr (nm s v) i (nm s v i) := by simp [List.getD_eq_getElem?_getD]
            have hgl := gr_len (nm s v) i (nm s v i)
            rw [if_pos rfl]
            simp only [gm]
            rw [grd_t ⟨c0 _, by simp; omega⟩, grd_t (by unfold lim; omega)]
            refine ⟨_, by rw [wi_succ i (by omega)], rfl, ?_, h3, fun k => ?_, by simp only; omega⟩
            · simp only [List.map_append, List.map_cons, hA]
              have hB : B.map (gr (nm s v) (i + 1)) = B.map (gr (nm s v) i) := by
                refine List.map_congr_left fun b hb' => ?_
                rw [gr_succ, if_neg (fun e => lt_irrefl b (by have := (List.pairwise_cons.1 p2).1 b hb'; rwa [e] at this))]
              rw [hB, gr_succ, if_pos rfl]
              rw [show A.length = (A.map (gr (nm s v) i)).length from by simp, List.set_append_right _ _ (Nat.le_refl _)]
              simp
            · rw [h4, gr_succ]
              split
              · rename_i e; subst e
                have : gr (nm s v) i (nm s v i) ≠ [] := (h4 _).1 (by simp)
                simp [this]
              · rfl
          · rw [if_neg (fun e => c (eq_toList.1 e))]
            have hyb : lt (nm s v i) b := by
              by_cases c2 : lt (nm s v i) b
              · exact c2
              · exact absurd (lt_tri hb c2) c
            have e2 := s_ins (A := A) (B := b :: B) (y := nm s v i) (g := gr (nm s v) i) (i := i) (by simp at hAB ⊢; omega) (by omega)
            simp only [Int.toNat_natCast] at e2
            rw [e2]
            refine new fun z hz => ?_
            rcases List.mem_cons.1 hz with rfl | hz
            · exact hyb
            · exact lt_trans' hyb ((List.pairwise_cons.1 p2).1 z hz))
  exact ⟨L, by rw [h1]; exact congrArg some h2, h3, h4⟩
end
/-- Lists that rise and hold the same are the same. -/
theorem rise_eq : ∀ {L M : List ByteArray}, L.Pairwise lt → M.Pairwise lt → (∀ k, k ∈ L ↔ k ∈ M) → L = M
  | [], [], _, _, _ => rfl
  | [], b :: M, _, _, h => absurd ((h b).2 (by simp)) (by simp)
  | a :: L, [], _, _, h => absurd ((h a).1 (by simp)) (by simp)
  | a :: L, b :: M, hL, hM, h => by
    obtain ⟨l1, l2⟩ := List.pairwise_cons.1 hL
    obtain ⟨m1, m2⟩ := List.pairwise_cons.1 hM
    have e : a = b := by
      rcases List.mem_cons.1 ((h a).1 (by simp)) with e | e
      · exact e
      · rcases List.mem_cons.1 ((h b).2 (by simp)) with e2 | e2
        · exact e2.symm
        · exact absurd (lt_trans' (m1 a e) (l1 b e2)) (lt_irrefl _)
    subst e
    refine congrArg (a :: ·) (rise_eq l2 m2 fun k => ⟨fun hk => ?_, fun hk => ?_⟩)
    · rcases List.mem_cons.1 ((h k).1 (by simp [hk])) with e | e
      · subst e; exact absurd (l1 k hk) (lt_irrefl _)
      · exact e
    · rcases List.mem_cons.1 ((h k).2 (by simp [hk])) with e | e
      · subst e; exact absurd (m1 k hk) (lt_irrefl _)
      · exact e
theorem le_nodup {L : List ByteArray} (h : L.Pairwise le) (hn : L.Nodup) : L.Pairwise lt := by
  refine (h.and hn).imp fun {a b} ⟨h1, h2⟩ => ?_
  by_cases c : lt a b
  · exact c
  · exact absurd (lt_tri c h1) h2
end Go.Proofs.Ytpfibofoeblapaa
