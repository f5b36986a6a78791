/- Sharpening: the program and the reference come to the same. -/
import Derived.Test.YtpfibofoeblapaaCp
set_option linter.unusedVariables false
set_option linter.unusedSimpArgs false
namespace Go.Proofs.Ytpfibofoeblapaa
open Go
section
variable {n v : Nat} {q y : SD}
/-! ### how much is not known -/
def keysL (n v : Nat) : List Key := (List.range n).flatMap (fun u => (List.range v).map (.V u) ++ ((List.range v).map (.R u) ++ [.S u, .M u])) ++ (List.range (n * n)).map .X
theorem mem_keysL {k : Key} : k ∈ keysL n v ↔ Ok n v k := by
  unfold keysL
  cases k <;> simp [Ok]
theorem keysL_len (hn : n ≤ 10) (hv : v ≤ 4) : (keysL n v).length ≤ 1000 := by
  unfold keysL
  have h2 := nn_le hn
  simp only [List.length_append, List.length_map, List.length_range]
  have : ∀ m, ((List.range m).flatMap (fun u => (List.range v).map (Key.V u) ++ ((List.range v).map (Key.R u) ++ [Key.S u, Key.M u]))).length ≤ 10 * m := by
    intro m
    induction m with
    | zero => simp
    | succ m ih =>
      rw [List.range_succ, List.flatMap_append, List.length_append]
      simp only [List.flatMap_cons, List.flatMap_nil, List.append_nil, List.length_append, List.length_map, List.length_range, List.length_cons, List.length_nil]
      omega
  have := this n
  omega
def halves (n v : Nat) (q : SD) : Nat := ((keysL n v).filter fun k => decide (getK q k = 1)).length
theorem filt_le {p p' : Key → Bool} : ∀ l : List Key, (∀ k, k ∈ l → p' k = true → p k = true) → (l.filter p').length ≤ (l.filter p).length
  | [], _ => Nat.le_refl _
  | k :: l, h => by
    have ih := filt_le l fun k hk => h k (by simp [hk])
    simp only [List.filter_cons]
    by_cases h1 : p' k = true
    · rw [if_pos h1, if_pos (h k (by simp) h1)]; simpa using ih
    · rw [if_neg h1]
      split
      · simp; omega
      · exact ih
theorem filt_lt {p p' : Key → Bool} : ∀ l : List Key, (∀ k, k ∈ l → p' k = true → p k = true) → (∃ k, k ∈ l ∧ p k = true ∧ ¬ p' k = true) → (l.filter p').length < (l.filter p).length
  | [], _, ⟨k, hk, _⟩ => by cases hk
  | k :: l, h, ⟨k0, hk, hp, hn⟩ => by
    have ih := filt_le l fun k hk => h k (by simp [hk])
    simp only [List.filter_cons]
    rcases List.mem_cons.1 hk with rfl | hk
    · rw [if_neg hn, if_pos hp]; simp; omega
    · have := filt_lt l (fun k hk => h k (by simp [hk])) ⟨k0, hk, hp, hn⟩
      by_cases h1 : p' k = true
      · rw [if_pos h1, if_pos (h k (by simp) h1)]; simpa using this
      · rw [if_neg h1]
        split
        · simp; omega
        · exact this
theorem halves_le (h : Le n v q y) : halves n v y ≤ halves n v q := filt_le _ fun k hk e => by
  have e : getK y k = 1 := by simpa using e
  rcases h k (mem_keysL.1 hk) with h | h
  · simpa using h
  · simp; omega
theorem halves_lt (h : Le n v q y) (h2 : ∃ k, Ok n v k ∧ getK q k = 1 ∧ getK y k ≠ 1) : halves n v y < halves n v q := by
  obtain ⟨k, hk, h3, h4⟩ := h2
  refine filt_lt _ (fun k hk e => ?_) ⟨k, mem_keysL.2 hk, by simpa using h3, by simpa using h4⟩
  have e : getK y k = 1 := by simpa using e
  rcases h k (mem_keysL.1 hk) with h | h
  · simpa using h
  · simp; omega
abbrev LC := Bool × Bool × List NodeD × List Int
/-- Rounds, till nothing turns or something is wrong. -/
theorem coerce_loop {body : LC → Option (Ctl LC Empty)} {ns : List NodeD} {nx : List Int} (hn : n ≤ 10) (hv : v ≤ 4) (w : Wf n v (ns, nx))
    (go : ∀ ns1 nx1, Wf n v (ns1, nx1) → ∃ ns2 nx2 ch2 bd2, body (true, false, ns1, nx1) = some (.go (ch2, bd2, ns2, nx2)) ∧ Op n v (Sharp n v) (ns1, nx1) false false (ns2, nx2) ch2 bd2)
    (out1 : ∀ bd1 ns1 nx1, body (false, bd1, ns1, nx1) = some (.out (false, bd1, ns1, nx1))) (out2 : ∀ ns1 nx1, body (true, true, ns1, nx1) = some (.out (true, true, ns1, nx1))) :
    ∃ ch' bd' ns' nx', loopO body fuel (true, false, ns, nx) = some (ch', bd', ns', nx') ∧ Wf n v (ns', nx') ∧ Le n v (ns, nx) (ns', nx') ∧ (bd' = false → Sharp n v (ns', nx')) ∧ ∀ y, Wf n v y → Sharp n v y → Le n v (ns, nx) y → Le n v (ns', nx') y ∧ bd' = false := by
  have hk := keysL_len hn hv
  have hh : ∀ q, halves n v q ≤ 1000 := fun q => Nat.le_trans (List.length_filter_le _ _) hk
  obtain ⟨⟨ch', bd', ns', nx'⟩, hs, hp⟩ := loopO_inv (body := body) (s0 := (true, false, ns, nx)) (PO := fun s => Wf n v (s.2.2.1, s.2.2.2) ∧ Le n v (ns, nx) (s.2.2.1, s.2.2.2) ∧ (s.2.1 = false → Sharp n v (s.2.2.1, s.2.2.2)) ∧ ∀ y, Wf n v y → Sharp n v y → Le n v (ns, nx) y → Le n v (s.2.2.1, s.2.2.2) y ∧ s.2.1 = false)
    (fun k s => Wf n v (s.2.2.1, s.2.2.2) ∧ Le n v (ns, nx) (s.2.2.1, s.2.2.2) ∧ (s.1 = false → s.2.1 = false → Sharp n v (s.2.2.1, s.2.2.2)) ∧ (∀ y, Wf n v y → Sharp n v y → Le n v (ns, nx) y → Le n v (s.2.2.1, s.2.2.2) y ∧ s.2.1 = false) ∧ halves n v (s.2.2.1, s.2.2.2) + (if s.1 = true then 1 else 0) + k ≤ halves n v (ns, nx) + 1) (halves n v (ns, nx) + 1) (by have := hh (ns, nx); omega)
    ⟨w, Le.refl, fun h => (by cases h), fun y _ _ hl => ⟨hl, rfl⟩, by simp⟩ (by
      rintro k ⟨ch1, bd1, ns1, nx1⟩ hk ⟨h1, h2, h3, h4, h5⟩
      simp only at h1 h2 h3 h4 h5
      cases ch1 with
      | false => exact .inl ⟨_, out1 bd1 ns1 nx1, h1, h2, h3 rfl, h4⟩
      | true =>
        cases bd1 with
        | true => exact .inl ⟨_, out2 ns1 nx1, h1, h2, fun h => (by cases h), h4⟩
        | false =>
          obtain ⟨ns2, nx2, ch2, bd2, hb, ho⟩ := go ns1 nx1 h1
          simp only [if_true] at h5
          refine .inr ⟨by omega, _, hb, ho.wf, h2.trans ho.le, fun hc hbd => ?_, fun y wy hy hl => ?_, ?_⟩
          · have := ho.same hc
            have hr := ho.rho hc hbd
            rw [← this] at hr; exact hr
          · exact ho.snd y wy hy (h4 y wy hy hl).1 rfl
          · show halves n v (ns2, nx2) + (if ch2 = true then 1 else 0) + (k + 1) ≤ halves n v (ns, nx) + 1
            have hle := halves_le ho.le
            cases ch2 with
            | false => simp only [Bool.false_eq_true, if_false]; omega
            | true =>
              rcases ho.prog rfl with e | e
              · cases e
              · have := halves_lt ho.le e
                simp only [if_true]; omega)
  exact ⟨ch', bd', ns', nx', hs, hp⟩
end
theorem wf_of {s : SD} {vars : Int} (h : IsStr vars s) : ∃ v : Nat, vars = (v : Int) ∧ v ≤ 4 ∧ s.1.length ≤ 10 ∧ Wf s.1.length v s := by
  obtain ⟨h1, h2, h3, h4, h5⟩ := h
  refine ⟨vars.toNat, by omega, by omega, h2, ⟨rfl, fun u hu => by have := (h5 u hu).1; omega, fun u hu => by have := (h5 u hu).2.1; omega, h3, fun k hk => ?_, fun u hu => (h5 u hu).2.2.2.2.2.2⟩⟩
  cases k with
  | V u z =>
    have := h5 u hk.1
    exact this.2.2.1 z (by have h6 : z < vars.toNat := hk.2; have := (h5 u hk.1).1; omega)
  | R u z =>
    have := h5 u hk.1
    exact this.2.2.2.1 z (by have h6 : z < vars.toNat := hk.2; have := (h5 u hk.1).2.1; omega)
  | S u => exact (h5 u hk).2.2.2.2.1
  | M u => have := (h5 u hk).2.2.2.2.2; exact ⟨this.1, Int.le_trans this.2 (by omega)⟩
  | X i => exact h4 i (by rw [h3]; exact hk)
theorem sm_wf {n v : Nat} {s : SD} (hn : n ≤ 10) (hv : v ≤ 4) (w : Wf n v s) : Sm s := by
  have h2 := nn_le hn
  refine ⟨by rw [w.len]; omega, by rw [w.nx]; omega, fun i => ?_, fun i => ?_⟩
  · by_cases hi : i < n
    · rw [w.row1 i hi]; omega
    · have : s.1.length ≤ i := by rw [w.len]; omega
      simp [List.getD_eq_getElem?_getD, List.getElem?_eq_none this]
  · by_cases hi : i < n
    · rw [w.row2 i hi]; omega
    · have : s.1.length ≤ i := by rw [w.len]; omega
      simp [List.getD_eq_getElem?_getD, List.getElem?_eq_none this]
theorem coerce_eq {s : SD} {vars : Int} (h : Sm s) : ∃ r, F_spec_Coerce vars s = some r ∧ F_impl_Coerce vars s = some r ∧ Sm r.1 := by
  unfold F_spec_Coerce F_impl_Coerce
  obtain ⟨b1, e1, k1⟩ := specStr (vars := vars) h
  obtain ⟨b2, e2, k2⟩ := implStr (vars := vars) h
  rw [e1, e2]
  simp only [Option.bind_some]
  by_cases hs : IsStr vars s
  rotate_left
  · rw [if_neg (fun e => hs (k1.1 e)), if_neg (fun e => hs (k2.1 e))]
    exact ⟨_, rfl, rfl, by simp, by simp, by simp, by simp⟩
  rw [if_pos (k1.2 hs), if_pos (k2.2 hs), copy_eq h, own_eq h]
  simp only [Option.bind_some]
  obtain ⟨v, rfl, hv, hn, w⟩ := wf_of hs
  obtain ⟨ns, nx⟩ := s
  obtain ⟨ch1, bd1, ns1, nx1, a1, a2, a3, a4, a5⟩ := coerce_loop (n := ns.length) (v := v) (ns := ns) (nx := nx) (body := fun st : LC => F_spec_Coerce_b1 v (ns, nx) st.1 st.2.1 st.2.2.1 st.2.2.2) hn hv w (fun ns1 nx1 w1 => by
    unfold F_spec_Coerce_b1
    rw [if_pos rfl, if_neg (by simp)]
    obtain ⟨ns2, nx2, ch2, bd2, hh, ho⟩ := op_all (ch := false) (bd := false) w1 hn hv
    refine ⟨ns2, nx2, ch2, bd2, ?_, ho⟩
    have := congrArg (fun o => o.bind fun y : List NodeD × List Int × Bool × Bool => some (Ctl.go (ρ := Empty) (y.2.2.1, y.2.2.2, y.1, y.2.1))) hh
    simp only [Option.bind_assoc, Option.bind_some] at this
    exact this) (fun bd1 ns1 nx1 => by unfold F_spec_Coerce_b1; rw [if_neg (by simp)]) (fun ns1 nx1 => by unfold F_spec_Coerce_b1; rw [if_pos rfl, if_pos rfl])
  obtain ⟨ch2, bd2, ns2, nx2, c1, c2, c3, c4, c5⟩ := coerce_loop (n := ns.length) (v := v) (ns := ns) (nx := nx) (body := fun st : LC => F_impl_Coerce_b1 (ns, nx) v st.1 st.2.1 st.2.2.1 st.2.2.2) hn hv w (fun ns1 nx1 w1 => by
    unfold F_impl_Coerce_b1
    rw [if_pos rfl, if_neg (by simp)]
    obtain ⟨ns2, nx2, ch2, bd2, hh, ho⟩ := i_round (ch := false) (bd := false) w1 hn hv
    refine ⟨ns2, nx2, ch2, bd2, ?_, ho⟩
    show (F_impl_sharpener_round ns.length ns1 nx1 v false false).bind _ = _
    rw [hh]
    rfl) (fun bd1 ns1 nx1 => by unfold F_impl_Coerce_b1; rw [if_neg (by simp)]) (fun ns1 nx1 => by unfold F_impl_Coerce_b1; rw [if_pos rfl, if_pos rfl])
  rw [a1, c1]
  simp only [Option.bind_some]
  cases bd1 with
  | true =>
    cases bd2 with
    | true =>
      rw [if_pos rfl, if_pos rfl]
      exact ⟨_, rfl, rfl, by simp, by simp, by simp, by simp⟩
    | false => have := (a5 _ c2 (c4 rfl) c3).2; cases this
  | false =>
    obtain ⟨l1, rfl⟩ := c5 _ a2 (a4 rfl) a3
    obtain ⟨l2, _⟩ := a5 _ c2 (c4 rfl) c3
    have e := Le.anti a2 c2 l2 l1
    rw [if_neg (by simp), if_neg (by simp), ← e, copy_eq (sm_wf hn hv a2)]
    exact ⟨_, rfl, rfl, sm_wf hn hv a2⟩
theorem isSharp_eq {s : SD} {vars : Int} (h : Sm s) : ∃ r, F_spec_IsSharp vars s = some r ∧ F_impl_IsSharp vars s = some r := by
  obtain ⟨r, e1, e2, e3⟩ := coerce_eq (vars := vars) h
  unfold F_spec_IsSharp F_impl_IsSharp
  rw [e1, e2]
  simp only [Option.bind_some]
  by_cases hr : r.2 = true
  · rw [if_pos hr, if_pos hr]
    obtain ⟨b1, f1, k1⟩ := specEq (t := s) e3
    obtain ⟨b2, f2, k2⟩ := implEq (t := s) e3
    rw [f1, f2]
    have : b1 = b2 := by
      cases b1 <;> cases b2 <;> first | rfl | exact absurd (k2.2 (k1.1 rfl)) (by simp) | exact absurd (k1.2 (k2.1 rfl)) (by simp)
    exact ⟨b1, rfl, by rw [this]; rfl⟩
  · rw [if_neg hr, if_neg hr]
    exact ⟨_, rfl, rfl⟩
/-- The law, in plain terms. -/
theorem law_isSharp {s : SD} {vars : Int} (h : Lg s) : F_laws_FnExactIsSharp vars s = some true := by
  unfold F_laws_FnExactIsSharp
  obtain ⟨y, ey, ky⟩ := sz_str h
  rw [ey]
  simp only [Option.bind_some]
  by_cases hy : y < 0
  · rw [if_pos hy]
  · rw [if_neg hy]
    have hs : Sm s := ky.resolve_left hy
    obtain ⟨r, e1, e2⟩ := isSharp_eq (vars := vars) hs
    rw [toStr_eq hs]
    simp only [Option.bind_some]
    rw [e1]
    simp only [Option.bind_some]
    rw [e2]
    simp only [Option.bind_some, if_true]
    obtain ⟨b, eb, kb⟩ := lawsEq (t := s) hs
    rw [eb]
    simp only [Option.bind_some]
    rw [if_pos (kb.2 rfl)]
end Go.Proofs.Ytpfibofoeblapaa
