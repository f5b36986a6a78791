/- Blur: the whole. -/
import Derived.Test.YtpfibofoeblapaaBl
set_option linter.unusedVariables false
set_option linter.unusedSimpArgs false
namespace Go.Proofs.Ytpfibofoeblapaa
open Go
section
variable {v : Nat} {s : SD} {g : ByteArray → List Int} {L : List ByteArray} {y84 : Grp × List ByteArray × Int}
abbrev bE : ByteArray := ByteArray.empty
def nv (s : SD) (a b : List Int) : Int := (F_spec_l17Next s a b).getD 0
theorem nv_eq (h : Bl v s) {a b : List Int} (ha : InR s a) (hb : InR s b) : F_spec_l17Next s a b = some (nv s a b) ∧ F_impl_joinNext s a b = some (nv s a b) := by
  obtain ⟨x, h1, h2⟩ := next_eq h ha hb
  have : nv s a b = x := by unfold nv; rw [h1]; rfl
  rw [this]; exact ⟨h1, h2⟩
theorem map_getD {i : Nat} (hi : i < L.length) : (L.map g).getD i [] = g (L.getD i bE) := by simp [List.getD_eq_getElem?_getD, hi]
theorem mem_getD {i : Nat} (hi : i < L.length) : L.getD i bE ∈ L := by simp [List.getD_eq_getElem?_getD, hi]
theorem s_row (h : Bl v s) (hL : L.length ≤ 10) (hg : ∀ k, k ∈ L → InR s (g k)) {i : Nat} (hi : i < L.length) {acc : List Int} (ha : acc.length ≤ 1000) :
    ∃ j, loopO (fun st : List Int × Int => F_spec_Blur_b1 (L.map g) s (i : Int) st.1 st.2) fuel (acc, 0) = some (acc ++ L.map (fun b => nv s (g (L.getD i bE)) (g b)), j) := by
  obtain ⟨⟨o, j⟩, h1, h2⟩ := loopO_inv (body := fun st : List Int × Int => F_spec_Blur_b1 (L.map g) s (i : Int) st.1 st.2) (s0 := (acc, 0)) (PO := fun st => st.1 = acc ++ L.map (fun b => nv s (g (L.getD i bE)) (g b)))
    (fun j st => st.2 = (j : Int) ∧ st.1 = acc ++ (L.take j).map (fun b => nv s (g (L.getD i bE)) (g b))) L.length (by omega) ⟨rfl, by simp⟩ (by
      rintro j ⟨o, j1⟩ hj ⟨h1, h2⟩
      simp only at h1 h2
      subst h1 h2
      unfold F_spec_Blur_b1
      by_cases e : j = L.length
      · subst e
        exact .inl ⟨_, by rw [if_neg (by simp)], by simp⟩
      · have hlt : j < L.length := by omega
        refine .inr ⟨hlt, ?_⟩
        have hlm : (L.map g).length = L.length := by simp
        rw [hlm, if_pos (cl hlt), grd_t ⟨c0 _, cl hlt⟩]
        simp only [Int.toNat_natCast]
        rw [map_getD hi, map_getD hlt, (nv_eq h (hg _ (mem_getD hi)) (hg _ (mem_getD hlt))).1]
        simp only [Option.bind_some]
        rw [grd_t (by simp [lim]; omega)]
        exact ⟨_, rfl, wi_succ j (by omega), by rw [take_succ bE hlt]; simp⟩)
  exact ⟨j, by rw [h1]; exact congrArg (fun x => some (x, j)) h2⟩
theorem i_row (h : Bl v s) (hm : ∀ k, mget y84.1 k = g k) (hL : L.length ≤ 10) (hg : ∀ k, k ∈ L → InR s (g k)) {i : Nat} (hi : i < L.length) {acc : List Int} (ha : acc.length ≤ 1000) :
    ∃ j, loopO (fun st : List Int × Int => F_impl_Blur_b3 L s y84 (i : Int) st.1 st.2) fuel (acc, 0) = some (acc ++ L.map (fun b => nv s (g (L.getD i bE)) (g b)), j) := by
  obtain ⟨⟨o, j⟩, h1, h2⟩ := loopO_inv (body := fun st : List Int × Int => F_impl_Blur_b3 L s y84 (i : Int) st.1 st.2) (s0 := (acc, 0)) (PO := fun st => st.1 = acc ++ L.map (fun b => nv s (g (L.getD i bE)) (g b)))
    (fun j st => st.2 = (j : Int) ∧ st.1 = acc ++ (L.take j).map (fun b => nv s (g (L.getD i bE)) (g b))) L.length (by omega) ⟨rfl, by simp⟩ (by
      rintro j ⟨o, j1⟩ hj ⟨h1, h2⟩
      simp only at h1 h2
      subst h1 h2
      unfold F_impl_Blur_b3
      by_cases e : j = L.length
      · subst e
        exact .inl ⟨_, by rw [if_neg (by simp)], by simp⟩
      · have hlt : j < L.length := by omega
        refine .inr ⟨hlt, ?_⟩
        rw [if_pos (cl hlt), grd_t ⟨c0 _, cl hlt⟩]
        simp only [Int.toNat_natCast, hm]
        rw [(nv_eq h (hg _ (mem_getD hi)) (hg _ (mem_getD hlt))).2]
        simp only [Option.bind_some]
        rw [grd_t (by simp [lim]; omega)]
        exact ⟨_, rfl, wi_succ j (by omega), by rw [take_succ bE hlt]; simp⟩)
  exact ⟨j, by rw [h1]; exact congrArg (fun x => some (x, j)) h2⟩
theorem i_many (h : Bl v s) (hm : ∀ k, mget y84.1 k = g k) {i : Nat} (hg : InR s (g (L.getD i bE))) :
    ∃ j, loopO (fun st : Int × Int => F_impl_Blur_b2 y84 L (i : Int) s st.1 st.2) fuel ((s.1.getD ((g (L.getD i bE)).getD 0 0).toNat dN).2.2.2, 0) = some (ndv s (g (L.getD i bE)), j) := by
  generalize hG : g (L.getD i bE) = G at *
  have hl : 0 < G.length := List.length_pos_iff.2 hg.1
  have hl' := hg.2.1
  obtain ⟨r1, r2⟩ := hg.2.2 0 hl
  obtain ⟨⟨m, j⟩, h1, h2⟩ := loopO_inv (body := fun st : Int × Int => F_impl_Blur_b2 y84 L (i : Int) s st.1 st.2) (s0 := ((s.1.getD (G.getD 0 0).toNat dN).2.2.2, 0)) (PO := fun st => st.1 = ndv s G)
    (fun j st => st.2 = (j : Int) ∧ (j = 0 → st.1 = (s.1.getD (G.getD 0 0).toNat dN).2.2.2) ∧ (j = 1 → st.1 = if (s.1.getD (G.getD 0 0).toNat dN).2.2.2 = 0 then (s.1.getD (G.getD 0 0).toNat dN).2.2.2 else 1) ∧ (2 ≤ j → st.1 = 1)) G.length (by omega)
    ⟨rfl, fun _ => rfl, fun h => absurd h (by omega), fun h => absurd h (by omega)⟩ (by
      rintro j ⟨m, j1⟩ hj ⟨h1, h2, h3, h4⟩
      simp only at h1 h2 h3 h4
      subst h1
      unfold F_impl_Blur_b2
      simp only [Int.toNat_natCast, hm]
      rw [show g (L.getD i ByteArray.empty) = G from hG]
      by_cases e : j = G.length
      · subst e
        refine .inl ⟨_, by rw [if_neg (by omega)], ?_⟩
        by_cases c : G.length > 1
        · simp only [ndv]; rw [if_pos c]; exact h4 (by omega)
        · simp only [ndv]; rw [if_neg c]; exact h3 (by omega)
      · have hlt : j < G.length := by omega
        refine .inr ⟨hlt, ?_⟩
        rw [if_pos (cl hlt), grd_t ⟨c0 _, cl hlt⟩]
        by_cases c : 0 < j
        · rw [if_pos (by omega)]
          exact ⟨_, rfl, wi_succ j (by omega), fun h => absurd h (by omega), fun h => absurd h (by omega), fun _ => rfl⟩
        · have hj0 : j = 0 := by omega
          subst hj0
          rw [if_neg (by omega), grd_t ⟨r1, r2⟩]
          change ∃ s', (if (s.1.getD (G.getD 0 0).toNat dN).2.2.2 = 0 then some (Ctl.go (ρ := Empty) (m, wi (((0 : Nat) : Int) + 1))) else some (Ctl.go (1, wi (((0 : Nat) : Int) + 1)))) = some (Ctl.go s') ∧ _
          by_cases c2 : (s.1.getD (G.getD 0 0).toNat dN).2.2.2 = 0
          · rw [if_pos c2]
            refine ⟨_, rfl, wi_succ 0 (by omega), fun h => absurd h (by omega), fun _ => ?_, fun h => absurd h (by omega)⟩
            rw [if_pos c2]; exact h2 rfl
          · rw [if_neg c2]
            refine ⟨_, rfl, wi_succ 0 (by omega), fun h => absurd h (by omega), fun _ => ?_, fun h => absurd h (by omega)⟩
            rw [if_neg c2])
  exact ⟨j, by rw [h1]; exact congrArg (fun x => some (x, j)) h2⟩
def bN (s : SD) (g : ByteArray → List Int) (L : List ByteArray) : List NodeD := L.map fun a => nd s (g a)
def bX (s : SD) (g : ByteArray → List Int) (L M : List ByteArray) : List Int := L.flatMap fun a => M.map fun b => nv s (g a) (g b)
theorem bX_len {M : List ByteArray} : (bX s g L M).length = L.length * M.length := by
  unfold bX
  induction L with
  | nil => simp
  | cons a L ih => rw [List.flatMap_cons, List.length_append, ih]; simp [Nat.add_mul]; omega
theorem s_loop (h : Bl v s) (hL : L.length ≤ 10) (hg : ∀ k, k ∈ L → InR s (g k)) :
    ∃ j, loopO (fun st : List NodeD × List Int × Int => F_spec_Blur_b2 (L.map g) s st.1 st.2.1 st.2.2) fuel ([], [], 0) = some (bN s g L, bX s g L L, j) := by
  obtain ⟨⟨o, x, j⟩, h1, h2, h3⟩ := loopO_inv (body := fun st : List NodeD × List Int × Int => F_spec_Blur_b2 (L.map g) s st.1 st.2.1 st.2.2) (s0 := ([], [], 0)) (PO := fun st => st.1 = bN s g L ∧ st.2.1 = bX s g L L)
    (fun i st => st.2.2 = (i : Int) ∧ st.1 = bN s g (L.take i) ∧ st.2.1 = bX s g (L.take i) L) L.length (by omega) ⟨rfl, rfl, rfl⟩ (by
      rintro i ⟨o, x, j⟩ hi ⟨h1, h2, h3⟩
      simp only at h1 h2 h3
      subst h1 h2 h3
      unfold F_spec_Blur_b2
      by_cases e : i = L.length
      · subst e
        exact .inl ⟨_, by rw [if_neg (by simp)], by simp, by simp⟩
      · have hlt : i < L.length := by omega
        refine .inr ⟨hlt, ?_⟩
        have hlm : (L.map g).length = L.length := by simp
        rw [hlm, if_pos (cl hlt), grd_t ⟨c0 _, cl hlt⟩]
        simp only [Int.toNat_natCast]
        have hx : (bX s g (L.take i) L).length ≤ 1000 := by
          rw [bX_len, List.length_take]
          have : min i L.length * L.length ≤ 10 * 10 := Nat.mul_le_mul (by omega) hL
          omega
        obtain ⟨j', hj'⟩ := s_row h hL hg hlt hx
        rw [map_getD hlt, s_node h (hg _ (mem_getD hlt))]
        simp only [Option.bind_some]
        rw [grd_t (by simp [bN, lim]; omega), hj']
        refine ⟨_, rfl, wi_succ i (by omega), ?_, ?_⟩
        · rw [take_succ bE hlt]; simp [bN]
        · rw [take_succ bE hlt]; simp [bX])
  have h2 : o = _ := h2
  have h3 : x = _ := h3
  subst h2 h3
  exact ⟨j, h1⟩
theorem i_loop (h : Bl v s) (hm : ∀ k, mget y84.1 k = g k) (hL : L.length ≤ 10) (hg : ∀ k, k ∈ L → InR s (g k)) :
    ∃ j, loopO (fun st : List NodeD × List Int × Int => F_impl_Blur_b4 L y84 s st.1 st.2.1 st.2.2) fuel ([], [], 0) = some (bN s g L, bX s g L L, j) := by
  obtain ⟨⟨o, x, j⟩, h1, h2, h3⟩ := loopO_inv (body := fun st : List NodeD × List Int × Int => F_impl_Blur_b4 L y84 s st.1 st.2.1 st.2.2) (s0 := ([], [], 0)) (PO := fun st => st.1 = bN s g L ∧ st.2.1 = bX s g L L)
    (fun i st => st.2.2 = (i : Int) ∧ st.1 = bN s g (L.take i) ∧ st.2.1 = bX s g (L.take i) L) L.length (by omega) ⟨rfl, rfl, rfl⟩ (by
      rintro i ⟨o, x, j⟩ hi ⟨h1, h2, h3⟩
      simp only at h1 h2 h3
      subst h1 h2 h3
      unfold F_impl_Blur_b4
      by_cases e : i = L.length
      · subst e
        exact .inl ⟨_, by rw [if_neg (by simp)], by simp, by simp⟩
      · have hlt : i < L.length := by omega
        refine .inr ⟨hlt, ?_⟩
        have hG := hg _ (mem_getD hlt)
        have hl : 0 < (g (L.getD i bE)).length := List.length_pos_iff.2 hG.1
        obtain ⟨r1, r2⟩ := hG.2.2 0 hl
        have hr := h.rows (i := ((g (L.getD i bE)).getD 0 0).toNat) (by omega)
        rw [if_pos (cl hlt), grd_t ⟨c0 _, cl hlt⟩]
        simp only [Int.toNat_natCast, hm]
        have hx : (bX s g (L.take i) L).length ≤ 1000 := by
          rw [bX_len, List.length_take]
          have : min i L.length * L.length ≤ 10 * 10 := Nat.mul_le_mul (by omega) hL
          omega
        obtain ⟨j', hj'⟩ := i_row h hm hL hg hlt hx
        obtain ⟨j2, hj2⟩ := i_many (L := L) h hm (i := i) hG
        rw [grd_t (c := 0 < ((g (L.getD i ByteArray.empty)).length : Int)) (Int.natCast_pos.2 hl)]
        change ∃ s', grd (0 ≤ (g (L.getD i bE)).getD 0 0 ∧ (g (L.getD i bE)).getD 0 0 < (s.1.length : Int)) ((F_Node_own (s.1.getD ((g (L.getD i bE)).getD 0 0).toNat dN)).bind _) = some (Ctl.go s') ∧ _
        rw [grd_t ⟨r1, r2⟩, ownN hr.1 hr.2]
        simp only [Option.bind_some]
        rw [hj2]
        simp only [Option.bind_some]
        rw [grd_t (by simp [bN, lim]; omega), hj']
        refine ⟨_, rfl, wi_succ i (by omega), ?_, ?_⟩
        · rw [take_succ bE hlt]; simp [bN, nd]
        · rw [take_succ bE hlt]; simp [bX])
  have h2 : o = _ := h2
  have h3 : x = _ := h3
  subst h2 h3
  exact ⟨j, h1⟩
theorem gD_mem {l : List Int} {i : Nat} (hi : i < l.length) : l.getD i 0 ∈ l := by
  rw [List.getD_eq_getElem?_getD, List.getElem?_eq_getElem hi]; exact List.getElem_mem hi
theorem blur_eq (h : Sm s) : ∃ r, F_spec_Blur s = some r ∧ F_impl_Blur s = some r ∧ Sm r := by
  unfold F_spec_Blur F_impl_Blur
  by_cases h0 : s.1.length = 0
  · rw [if_pos (by omega), if_pos (by omega)]
    exact ⟨_, rfl, rfl, by simp, by simp, by simp, by simp⟩
  have hn1 : 1 ≤ s.1.length := by omega
  rw [if_neg (by omega), if_neg (by omega), s_vars hn1, i_vars hn1]
  simp only [Option.bind_some]
  obtain ⟨b1, e1, k1⟩ := specStr (vars := ((s.1.getD 0 dN).1.length : Int)) h
  obtain ⟨b2, e2, k2⟩ := implStr (vars := ((s.1.getD 0 dN).1.length : Int)) h
  rw [e1, e2]
  simp only [Option.bind_some]
  by_cases hs : IsStr ((s.1.getD 0 dN).1.length : Int) s
  rotate_left
  · rw [if_neg (fun e => hs (k1.1 e)), if_neg (fun e => hs (k2.1 e)), copy_eq h, own_eq h]
    exact ⟨s, rfl, rfl, h⟩
  rw [if_pos (k1.2 hs), if_pos (k2.2 hs)]
  have hB : Bl (s.1.getD 0 dN).1.length s := Bl.of hs hn1
  have hn := hB.n10
  obtain ⟨L, q1, q2, q3⟩ := s_groups hB
  obtain ⟨m, D, p1, p2, p3, p4, p5⟩ := i_groups hB
  obtain ⟨r, r1, r2, r3⟩ := ins_sort (l := D) (by omega)
  have hr : r = L := rise_eq (le_nodup r3 (r2.nodup_iff.2 p3)) q2 fun k => by rw [r2.mem_iff, p4, q3]
  subst hr
  have hlen : r.length ≤ 10 := by have := r2.length_eq; omega
  have hg : ∀ k, k ∈ r → InR s (gr (nm s (s.1.getD 0 dN).1.length) s.1.length k) := by
    intro k hk
    refine ⟨(q3 k).1 hk, Nat.le_trans (gr_len _ _ _) hn, fun i hi => ?_⟩
    have hmem : (gr (nm s (s.1.getD 0 dN).1.length) s.1.length k).getD i 0 ∈ gr (nm s (s.1.getD 0 dN).1.length) s.1.length k := gD_mem hi
    obtain ⟨j, ej, hj, _⟩ := gr_mem _ hmem
    rw [ej]; omega
  obtain ⟨j1, z1⟩ := s_loop hB hlen hg
  obtain ⟨j2, z2⟩ := i_loop (y84 := (m, D, (s.1.length : Int))) hB p2 hlen hg
  rw [q1, p1]
  simp only [Option.bind_some]
  rw [r1]
  simp only [Option.bind_some]
  rw [z1, z2]
  refine ⟨_, rfl, rfl, ?_, ?_, fun i => ?_, fun i => ?_⟩
  · simp [bN]; omega
  · simp only [bX_len]
    have : r.length * r.length ≤ 10 * 10 := Nat.mul_le_mul hlen hlen
    omega
  · by_cases hi : i < r.length
    · have : (bN s (gr (nm s (s.1.getD 0 dN).1.length) s.1.length) r).getD i dN = nd s (gr (nm s (s.1.getD 0 dN).1.length) s.1.length (r.getD i bE)) := by simp [bN, List.getD_eq_getElem?_getD, hi]
      simp only [this, nd]
      exact h.r1 _
    · have : (bN s (gr (nm s (s.1.getD 0 dN).1.length) s.1.length) r).getD i dN = dN := by simp [bN, List.getD_eq_getElem?_getD, List.getElem?_eq_none (Nat.le_of_not_lt hi)]
      simp only [this]
      exact Nat.zero_le _
  · by_cases hi : i < r.length
    · have : (bN s (gr (nm s (s.1.getD 0 dN).1.length) s.1.length) r).getD i dN = nd s (gr (nm s (s.1.getD 0 dN).1.length) s.1.length (r.getD i bE)) := by simp [bN, List.getD_eq_getElem?_getD, hi]
      simp only [this, nd]
      exact h.r2 _
    · have : (bN s (gr (nm s (s.1.getD 0 dN).1.length) s.1.length) r).getD i dN = dN := by simp [bN, List.getD_eq_getElem?_getD, List.getElem?_eq_none (Nat.le_of_not_lt hi)]
      simp only [this]
      exact Nat.zero_le _
end
end Go.Proofs.Ytpfibofoeblapaa
