/- Sharpening, as the reference does it: paths, rules 7 and 8. -/
import Derived.Test.YtpfibofoeblapaaSp3
set_option linter.unusedVariables false
set_option linter.unusedSimpArgs false
namespace Go.Proofs.Ytpfibofoeblapaa
open Go
theorem f_min (a b : Int) : F_spec_l1Min a b = some (min a b) := by
  unfold F_spec_l1Min
  by_cases h : a < b
  · rw [if_pos h, Int.min_eq_left (by omega)]
  · rw [if_neg h, Int.min_eq_right (by omega)]
theorem f_max (a b : Int) : F_spec_l1Max a b = some (max a b) := by
  unfold F_spec_l1Max
  by_cases h : a > b
  · rw [if_pos h, Int.max_eq_left (by omega)]
  · rw [if_neg h, Int.max_eq_right (by omega)]
theorem f_bit (b : Bool) : F_spec_l1Bit b = some (if b = true then 1 else 0) := by
  unfold F_spec_l1Bit
  split <;> rfl
section
variable {n v : Nat} {ns : List NodeD} {nx : List Int} {ch bd : Bool} {to : Int} {u x z : Nat} {r : Int}
abbrev Ed (n : Nat) (q : SD) (a b : Nat) : Prop := getK q (.X (a * n + b)) ≠ 0
/-- A row of values that tells of paths from u. -/
structure Row (n v : Nat) (q : SD) (u : Nat) (best : List Int) : Prop where
  len : best.length = n
  nn : ∀ b, b < n → 0 ≤ best.getD b 0
  base : ∀ b, b < n → Ed n q u b → best.getD b 0 ≠ 0
  snd : ∀ b, b < n → best.getD b 0 ≠ 0 → Rc n (Ed n q) u b
def Grow (n : Nat) (best best' : List Int) : Prop := ∀ b, b < n → best.getD b 0 ≠ 0 → best'.getD b 0 ≠ 0
theorem row_b2 {best : List Int} {a : Nat} (w : Wf n v (ns, nx)) (hn : n ≤ 10) (hu : u < n) (ha : a < n) (hr : Row n v (ns, nx) u best) :
    ∃ best' j', loopO (fun st : List Int × Int => F_spec_l13Row_b2 (ns, nx) a st.1 st.2) fuel (best, 0) = some (best', j') ∧ Row n v (ns, nx) u best' ∧ Grow n best best' ∧ (best.getD a 0 ≠ 0 → ∀ b, b < n → Ed n (ns, nx) a b → best'.getD b 0 ≠ 0) := by
  have hl : ns.length = n := w.len
  obtain ⟨⟨best', j'⟩, hs, hp⟩ := loopO_inv (body := fun st : List Int × Int => F_spec_l13Row_b2 (ns, nx) a st.1 st.2) (s0 := (best, 0)) (PO := fun s => Row n v (ns, nx) u s.1 ∧ Grow n best s.1 ∧ (best.getD a 0 ≠ 0 → ∀ b, b < n → Ed n (ns, nx) a b → s.1.getD b 0 ≠ 0))
    (fun j s => s.2 = (j : Int) ∧ Row n v (ns, nx) u s.1 ∧ Grow n best s.1 ∧ (best.getD a 0 ≠ 0 → ∀ b, b < j → b < n → Ed n (ns, nx) a b → s.1.getD b 0 ≠ 0)) n (by omega) ⟨rfl, hr, fun _ _ h => h, fun _ b h => absurd h (by omega)⟩ (by
      rintro j ⟨bs, j1⟩ hj ⟨h1, h2, h3, h4⟩
      simp only at h1 h2 h3 h4
      subst h1
      unfold F_spec_l13Row_b2
      simp only [hl, Int.toNat_natCast]
      by_cases e : j = n
      · subst e
        exact .inl ⟨_, by rw [if_neg (by omega)], h2, h3, fun h b hb => h4 h b hb hb⟩
      · have hlt : j < n := by omega
        refine .inr ⟨hlt, ?_⟩
        have hlb := h2.len
        rw [if_pos (cl hlt), grd_t ⟨c0 _, by rw [hlb]; exact cl hlt⟩, grd_t ⟨c0 _, by rw [hlb]; exact cl ha⟩, s_nextOf w hn ha hlt]
        simp only [Option.bind_some, f_min, f_max]
        have hra := h2.nn a ha
        have hrj := h2.nn j hlt
        have hX := w.rng (.X (a * n + j)) (idx_lt ha hlt)
        have hnew : ∀ b, b < n → (bs.set j (max (bs.getD j 0) (min (bs.getD a 0) (getK (ns, nx) (.X (a * n + j)))))).getD b 0 = if b = j then max (bs.getD j 0) (min (bs.getD a 0) (getK (ns, nx) (.X (a * n + j)))) else bs.getD b 0 := by
          intro b hb
          by_cases e : b = j
          · subst e; rw [gs_same (by omega), if_pos rfl]
          · rw [gs_ne (Ne.symm e), if_neg e]
        refine ⟨_, by rw [wi_succ j (by omega)], rfl, ⟨by simp [hlb], fun b hb => ?_, fun b hb he => ?_, fun b hb hne => ?_⟩, fun b hb hne => ?_, fun hne b hbj hb he => ?_⟩
        · simp only [hnew b hb]; split
          · omega
          · exact h2.nn b hb
        · simp only [hnew b hb]; split
          · rename_i e; subst e; have := h2.base b hb he; omega
          · exact h2.base b hb he
        · simp only [hnew b hb] at hne
          split at hne
          · rename_i e; subst e
            by_cases h0 : bs.getD b 0 ≠ 0
            · exact h2.snd b hb h0
            · have h5 : bs.getD a 0 ≠ 0 := by omega
              exact .more (h2.snd a ha h5) hb (show getK (ns, nx) (.X (a * n + b)) ≠ 0 by omega)
          · exact h2.snd b hb hne
        · have := h3 b hb hne
          simp only [hnew b hb]; split
          · rename_i e; subst e; omega
          · exact this
        · simp only [hnew b hb]; split
          · rename_i e; subst e
            have h5 := h3 a ha hne
            have h6 : getK (ns, nx) (.X (a * n + b)) ≠ 0 := he
            omega
          · exact h4 hne b (by omega) hb he)
  exact ⟨best', j', hs, hp⟩
theorem row_b3 {best : List Int} (w : Wf n v (ns, nx)) (hn : n ≤ 10) (hu : u < n) (hr : Row n v (ns, nx) u best) :
    ∃ best' j', loopO (fun st : List Int × Int => F_spec_l13Row_b3 (ns, nx) st.1 st.2) fuel (best, 0) = some (best', j') ∧ Row n v (ns, nx) u best' ∧ Grow n best best' ∧ ∀ a, a < n → best.getD a 0 ≠ 0 → ∀ b, b < n → Ed n (ns, nx) a b → best'.getD b 0 ≠ 0 := by
  have hl : ns.length = n := w.len
  obtain ⟨⟨best', j'⟩, hs, hp⟩ := loopO_inv (body := fun st : List Int × Int => F_spec_l13Row_b3 (ns, nx) st.1 st.2) (s0 := (best, 0)) (PO := fun s => Row n v (ns, nx) u s.1 ∧ Grow n best s.1 ∧ ∀ a, a < n → best.getD a 0 ≠ 0 → ∀ b, b < n → Ed n (ns, nx) a b → s.1.getD b 0 ≠ 0)
    (fun j s => s.2 = (j : Int) ∧ Row n v (ns, nx) u s.1 ∧ Grow n best s.1 ∧ ∀ a, a < j → a < n → best.getD a 0 ≠ 0 → ∀ b, b < n → Ed n (ns, nx) a b → s.1.getD b 0 ≠ 0) n (by omega) ⟨rfl, hr, fun _ _ h => h, fun a h => absurd h (by omega)⟩ (by
      rintro j ⟨bs, j1⟩ hj ⟨h1, h2, h3, h4⟩
      simp only at h1 h2 h3 h4
      subst h1
      unfold F_spec_l13Row_b3
      simp only [hl]
      by_cases e : j = n
      · subst e
        exact .inl ⟨_, by rw [if_neg (by omega)], h2, h3, fun a ha => h4 a ha ha⟩
      · have hlt : j < n := by omega
        refine .inr ⟨hlt, ?_⟩
        obtain ⟨bs', j', hbq, k1, k2, k3⟩ := row_b2 (a := j) w hn hu hlt h2
        rw [if_pos (cl hlt), hbq]
        refine ⟨_, by simp only [Option.bind_some]; rw [wi_succ j (by omega)], rfl, k1, fun b hb hne => k2 b hb (h3 b hb hne), fun a haj ha hne b hb he => ?_⟩
        by_cases ea : a = j
        · subst ea; exact k3 (h3 a ha hne) b hb he
        · exact k2 b hb (h4 a (by omega) ha hne b hb he))
  exact ⟨best', j', hs, hp⟩
abbrev nz (best : List Int) : Nat → Prop := fun b => best.getD b 0 ≠ 0
theorem row_b4 {best : List Int} (w : Wf n v (ns, nx)) (hn : n ≤ 10) (hu : u < n) (hr : Row n v (ns, nx) u best) :
    ∃ best' j', loopO (fun st : List Int × Int => F_spec_l13Row_b4 (ns, nx) st.1 st.2) fuel (best, 0) = some (best', j') ∧ Row n v (ns, nx) u best' ∧ ∀ b, Rc n (Ed n (ns, nx)) u b → best'.getD b 0 ≠ 0 := by
  have hl : ns.length = n := w.len
  obtain ⟨⟨best', j'⟩, hs, hp⟩ := loopO_inv (body := fun st : List Int × Int => F_spec_l13Row_b4 (ns, nx) st.1 st.2) (s0 := (best, 0)) (PO := fun s => Row n v (ns, nx) u s.1 ∧ ∀ b, Rc n (Ed n (ns, nx)) u b → s.1.getD b 0 ≠ 0)
    (fun j s => s.2 = (j : Int) ∧ Row n v (ns, nx) u s.1 ∧ ((∀ b, Rc n (Ed n (ns, nx)) u b → s.1.getD b 0 ≠ 0) ∨ j ≤ cntN (nz s.1) n)) n (by omega) ⟨rfl, hr, .inr (Nat.zero_le _)⟩ (by
      rintro j ⟨bs, j1⟩ hj ⟨h1, h2, h4⟩
      simp only at h1 h2 h4
      subst h1
      unfold F_spec_l13Row_b4
      simp only [hl]
      by_cases e : j = n
      · subst e
        refine .inl ⟨_, by rw [if_neg (by omega)], h2, ?_⟩
        rcases h4 with h4 | h4
        · exact h4
        · have hc := cntN_le (p := nz bs) j
          have := cntN_full (p := nz bs) j (by omega)
          exact fun b hb => this b hb.lt.2
      · have hlt : j < n := by omega
        refine .inr ⟨hlt, ?_⟩
        obtain ⟨bs', j', hbq, k1, k2, k3⟩ := row_b3 w hn hu h2
        rw [if_pos (cl hlt), hbq]
        refine ⟨_, by simp only [Option.bind_some]; rw [wi_succ j (by omega)], rfl, k1, ?_⟩
        rcases h4 with h4 | h4
        · exact .inl fun b hb => k2 b hb.lt.2 (h4 b hb)
        · have hm := cntN_mono (p := nz bs) (q := nz bs') n k2
          by_cases hlt2 : cntN (nz bs) n < cntN (nz bs') n
          · exact .inr (by show j + 1 ≤ cntN (nz bs') n; omega)
          · refine .inl fun b hb => ?_
            have hsame := cntN_same (p := nz bs) (q := nz bs') n k2 (by omega)
            have : ∀ c, Rc n (Ed n (ns, nx)) u c → bs'.getD c 0 ≠ 0 := by
              intro c hc
              suffices h : ∀ u', u' = u → ∀ c, Rc n (Ed n (ns, nx)) u' c → bs'.getD c 0 ≠ 0 from h u rfl c hc
              intro u' hu' c hc
              induction hc with
              | one g1 g2 g3 => subst hu'; exact k1.base _ g2 g3
              | more g1 g2 g3 ih => exact k3 _ g1.lt.2 (hsame _ g1.lt.2 ih) _ g2 g3
            exact this b hb)
  exact ⟨best', j', hs, hp⟩
theorem s_row (w : Wf n v (ns, nx)) (hn : n ≤ 10) (hu : u < n) : ∃ row, F_spec_l13Row (ns, nx) (u : Int) = some row ∧ row.length = n ∧ ∀ x, x < n → (row.getD x 0 = 0 ↔ PathZ n u x (ns, nx)) := by
  have hl : ns.length = n := w.len
  unfold F_spec_l13Row
  obtain ⟨⟨b1, j1⟩, hs, hp⟩ := loopO_inv (body := fun st : List Int × Int => F_spec_l13Row_b1 (ns, nx) u st.1 st.2) (s0 := ([], 0)) (PO := fun s => s.1.length = n ∧ ∀ b, b < n → s.1.getD b 0 = getK (ns, nx) (.X (u * n + b)))
    (fun j s => s.2 = (j : Int) ∧ s.1.length = j ∧ ∀ b, b < j → s.1.getD b 0 = getK (ns, nx) (.X (u * n + b))) n (by omega) ⟨rfl, rfl, fun b h => absurd h (by omega)⟩ (by
      rintro j ⟨bs, j1⟩ hj ⟨h1, h2, h3⟩
      simp only at h1 h2 h3
      subst h1
      unfold F_spec_l13Row_b1
      simp only [hl]
      by_cases e : j = n
      · subst e
        exact .inl ⟨_, by rw [if_neg (by omega)], h2, h3⟩
      · have hlt : j < n := by omega
        refine .inr ⟨hlt, ?_⟩
        rw [if_pos (cl hlt), s_nextOf w hn hu hlt]
        simp only [Option.bind_some]
        rw [grd_t (by unfold lim; omega)]
        refine ⟨_, by rw [wi_succ j (by omega)], rfl, by simp [h2], fun b hb => ?_⟩
        by_cases eb : b = j
        · subst eb
          simp [List.getD_eq_getElem?_getD, ← h2]
        · have := h3 b (by omega)
          rw [← this]
          simp [List.getD_eq_getElem?_getD, List.getElem?_append_left (show b < bs.length by omega)])
  rw [hs]
  simp only [Option.bind_some]
  have hr : Row n v (ns, nx) u b1 := ⟨hp.1, fun b hb => by rw [hp.2 b hb]; exact (w.rng (.X (u * n + b)) (idx_lt hu hb)).1, fun b hb he => by rw [hp.2 b hb]; exact he, fun b hb he => .one hu hb (by rw [hp.2 b hb] at he; exact he)⟩
  obtain ⟨b2, j2, h2, k1, k2⟩ := row_b4 w hn hu hr
  rw [h2]
  simp only [Option.bind_some, Int.toNat_natCast]
  rw [grd_t ⟨c0 _, by rw [k1.len]; exact cl hu⟩, grd_t ⟨c0 _, by rw [hl]; exact cl hu⟩]
  simp only [f_bit, f_max, Option.bind_some]
  have hpos : ∀ b : Bool, 1 ≤ wi (2 - (if b = true then 1 else 0)) := by decide
  refine ⟨_, rfl, by simp [k1.len], fun x hx => ?_⟩
  by_cases e : x = u
  · subst e
    rw [gs_same (by rw [k1.len]; exact hx)]
    have := hpos (!decide ((ns.getD x dN).2.2.2 = 0))
    constructor
    · intro h; exfalso; revert h; generalize wi _ = t at *; omega
    · intro h; exact absurd rfl h.1
  · rw [gs_ne (Ne.symm e)]
    constructor
    · intro h
      exact ⟨fun e' => e e'.symm, fun hrc => k2 x hrc h⟩
    · intro h
      refine Classical.byContradiction fun hne => h.2 (k1.snd x hx hne)
theorem paths_b1 {row : List Int} (w : Wf n v (ns, nx)) (hn : n ≤ 10) (hu : u < n) (hz : z < v) (hV : getK (ns, nx) (.V u z) = 2) (hl : row.length = n) (hr : ∀ x, x < n → (row.getD x 0 = 0 ↔ PathZ n u x (ns, nx))) :
    ∃ ns' nx' ch' bd' j', loopO (fun st : LS => F_spec_l20Paths_b1 row v n z st.1 st.2.1 st.2.2.1 st.2.2.2.1 st.2.2.2.2) fuel (ch, bd, ns, nx, 0) = some (ch', bd', ns', nx', j') ∧
      Op n v (fun y => ∀ x, x < n → Q6b n z u x y) (ns, nx) ch bd (ns', nx') ch' bd' := by
  refine loop_opx (fun x y => Q6b n z u x y) n (by omega) w (fun x ns1 nx1 ch1 bd1 hx ho w1 => .inl ?_) (fun ns1 nx1 ch1 bd1 => ⟨n, by simp [F_spec_l20Paths_b1, hl]⟩)
  unfold F_spec_l20Paths_b1
  simp only [Int.toNat_natCast, hl]
  rw [if_pos (cl hx), grd_t ⟨c0 _, cl hx⟩]
  by_cases h0 : row.getD x 0 = 0
  · rw [if_pos h0]
    have hp := (hr x hx).1 h0
    obtain ⟨ns4, nx4, ch4, bd4, h4, o4⟩ := e_reach (r := (v : Int)) (ch := ch1) (bd := bd1) (ρ := Q6b n z u x) (to := 0) w1 hx hz (.inl rfl) (fun e _ _ => e) fun y _ h hl' => h ((ho.le.trans hl').def (k := .V u z) ⟨hu, hz⟩ hV (by omega)) (pathZ_le (ho.le.trans hl') hp)
    rw [h4]
    exact ⟨ns4, nx4, ch4, bd4, by simp only [Option.bind_some]; rw [wi_succ x (by omega)], ho.comp o4⟩
  · rw [if_neg h0]
    refine ⟨ns1, nx1, ch1, bd1, by rw [wi_succ x (by omega)], ho.stay fun e => ?_⟩
    intro _ hp
    exact absurd ((hr x hx).2 hp) h0
theorem op_paths (w : Wf n v (ns, nx)) (hn : n ≤ 10) (hv : v ≤ 4) :
    ∃ ns' nx' ch' bd', F_spec_l20Paths v n ns nx ch bd = some (ns', nx', ch', bd') ∧ Op n v (fun y => ∀ z, z < v → ∀ u, u < n → ∀ x, x < n → Q6b n z u x y) (ns, nx) ch bd (ns', nx') ch' bd' := by
  unfold F_spec_l20Paths
  obtain ⟨ns2, nx2, ch2, bd2, j2, h2, o2⟩ := loop_op (n := n) (v := v) (ch := ch) (bd := bd) (body := fun st : LS => F_spec_l20Paths_b3 v n st.1 st.2.1 st.2.2.1 st.2.2.2.1 st.2.2.2.2) (fun z y => ∀ u, u < n → ∀ x, x < n → Q6b n z u x y) v (by omega) w (fun z ns1 nx1 ch1 bd1 hz hl w1 => .inl (by
    unfold F_spec_l20Paths_b3
    rw [if_pos (cl hz)]
    obtain ⟨ns2, nx2, ch2, bd2, j2, h2, o2⟩ := loop_op (n := n) (v := v) (ch := ch1) (bd := bd1) (body := fun st : LS => F_spec_l20Paths_b2 n z v st.1 st.2.1 st.2.2.1 st.2.2.2.1 st.2.2.2.2) (fun u y => ∀ x, x < n → Q6b n z u x y) n (by omega) w1 (fun u ns1 nx1 ch1 bd1 hu hl w1 => by
      cases bd1 with
      | true => exact .inr ⟨rfl, u, by unfold F_spec_l20Paths_b2; rw [if_pos (cl hu), if_pos rfl]⟩
      | false =>
        refine .inl ?_
        unfold F_spec_l20Paths_b2
        simp only [Int.toNat_natCast]
        rw [if_pos (cl hu), if_neg (by simp), grd_t ⟨c0 _, cl hu⟩, grd_t ⟨c0 _, len1 w1 hu hz⟩]
        by_cases hV : (ns1.getD u dN).1.getD z 0 = 2
        · rw [if_pos hV]
          obtain ⟨row, hr1, hr2, hr3⟩ := s_row w1 hn hu
          rw [hr1]
          simp only [Option.bind_some]
          obtain ⟨ns2, nx2, ch2, bd2, j2, h2, o2⟩ := paths_b1 (ch := ch1) (bd := false) w1 hn hu hz hV hr2 hr3
          rw [h2]
          exact ⟨ns2, nx2, ch2, bd2, by simp only [Option.bind_some]; rw [wi_succ u (by omega)], o2⟩
        · rw [if_neg hV]
          exact ⟨ns1, nx1, ch1, false, by rw [wi_succ u (by omega)], .skip w1 fun x _ h => absurd h hV⟩) (fun ns1 nx1 ch1 bd1 => ⟨n, by simp [F_spec_l20Paths_b2]⟩)
    rw [h2]
    exact ⟨ns2, nx2, ch2, bd2, by simp only [Option.bind_some]; rw [wi_succ z (by omega)], o2⟩)) (fun ns1 nx1 ch1 bd1 => ⟨v, by simp [F_spec_l20Paths_b3]⟩)
  rw [h2]
  exact ⟨ns2, nx2, ch2, bd2, rfl, o2⟩
end
end Go.Proofs.Ytpfibofoeblapaa
