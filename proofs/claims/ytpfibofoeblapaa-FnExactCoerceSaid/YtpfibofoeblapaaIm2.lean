/- Sharpening, as the program does it: its rules. -/
import Derived.Test.YtpfibofoeblapaaIm
set_option linter.unusedVariables false
set_option linter.unusedSimpArgs false
namespace Go.Proofs.Ytpfibofoeblapaa
open Go
section
variable {n v : Nat} {ns : List NodeD} {nx : List Int} {ch bd : Bool} {to : Int} {u x z : Nat} {r : Int}
theorem i_R {ρ : SD → Prop} (w : Wf n v (ns, nx)) (hu : u < n) (hz : z < v) (hto : to = 0 ∨ to = 2) (h1 : getK (ns, nx) (.R u z) = to → ρ (ns, nx)) (h2 : ∀ y, Wf n v y → ρ y → Le n v (ns, nx) y → getK y (.R u z) = to) :
    ∃ ns' ch' bd', ns.set u ((ns.getD u dN).1, (ns.getD u dN).2.1.set z (vl ((ns.getD u dN).2.1.getD z 0) to ch bd).1, (ns.getD u dN).2.2) = ns' ∧ (vl ((ns.getD u dN).2.1.getD z 0) to ch bd).2.1 = ch' ∧ (vl ((ns.getD u dN).2.1.getD z 0) to ch bd).2.2 = bd' ∧ Op n v ρ (ns, nx) ch bd (ns', nx) ch' bd' := by
  have := Op.set (ch := ch) (bd := bd) (k := .R u z) w ⟨hu, hz⟩ hto (by simp) h1 h2
  rw [setQ_vl] at this
  exact ⟨_, _, _, rfl, rfl, rfl, this⟩
theorem i_V {ρ : SD → Prop} (w : Wf n v (ns, nx)) (hu : u < n) (hz : z < v) (hto : to = 0 ∨ to = 2) (h1 : getK (ns, nx) (.V u z) = to → ρ (ns, nx)) (h2 : ∀ y, Wf n v y → ρ y → Le n v (ns, nx) y → getK y (.V u z) = to) :
    ∃ ns' ch' bd', ns.set u ((ns.getD u dN).1.set z (vl ((ns.getD u dN).1.getD z 0) to ch bd).1, (ns.getD u dN).2) = ns' ∧ (vl ((ns.getD u dN).1.getD z 0) to ch bd).2.1 = ch' ∧ (vl ((ns.getD u dN).1.getD z 0) to ch bd).2.2 = bd' ∧ Op n v ρ (ns, nx) ch bd (ns', nx) ch' bd' := by
  have := Op.set (ch := ch) (bd := bd) (k := .V u z) w ⟨hu, hz⟩ hto (by simp) h1 h2
  rw [setQ_vl] at this
  exact ⟨_, _, _, rfl, rfl, rfl, this⟩
theorem i_S {ρ : SD → Prop} (w : Wf n v (ns, nx)) (hu : u < n) (hto : to = 0 ∨ to = 2) (h1 : getK (ns, nx) (.S u) = to → ρ (ns, nx)) (h2 : ∀ y, Wf n v y → ρ y → Le n v (ns, nx) y → getK y (.S u) = to) :
    ∃ ns' ch' bd', ns.set u ((ns.getD u dN).1, (ns.getD u dN).2.1, (vl (ns.getD u dN).2.2.1 to ch bd).1, (ns.getD u dN).2.2.2) = ns' ∧ (vl (ns.getD u dN).2.2.1 to ch bd).2.1 = ch' ∧ (vl (ns.getD u dN).2.2.1 to ch bd).2.2 = bd' ∧ Op n v ρ (ns, nx) ch bd (ns', nx) ch' bd' := by
  have := Op.set (ch := ch) (bd := bd) (k := .S u) w hu hto (by simp) h1 h2
  rw [setQ_vl] at this
  exact ⟨_, _, _, rfl, rfl, rfl, this⟩
theorem i_X {ρ : SD → Prop} {i : Nat} (w : Wf n v (ns, nx)) (hi : i < n * n) (hto : to = 0 ∨ to = 2) (h1 : getK (ns, nx) (.X i) = to → ρ (ns, nx)) (h2 : ∀ y, Wf n v y → ρ y → Le n v (ns, nx) y → getK y (.X i) = to) :
    ∃ nx' ch' bd', nx.set i (vl (nx.getD i 0) to ch bd).1 = nx' ∧ (vl (nx.getD i 0) to ch bd).2.1 = ch' ∧ (vl (nx.getD i 0) to ch bd).2.2 = bd' ∧ Op n v ρ (ns, nx) ch bd (ns, nx') ch' bd' := by
  have := Op.set (ch := ch) (bd := bd) (k := .X i) w hi hto (by simp) h1 h2
  rw [setQ_vl] at this
  exact ⟨_, _, _, rfl, rfl, rfl, this⟩
theorem i_one {ρ : SD → Prop} (w : Wf n v (ns, nx)) (hu : u < n) (h1 : getK (ns, nx) (.M u) = 0 → ρ (ns, nx)) (h2 : ∀ y, Wf n v y → ρ y → Le n v (ns, nx) y → getK y (.M u) = 0) :
    ∃ ns' ch' bd', F_impl_sharpener_one n ns nx r ch bd (u : Int) = some (ns', nx, ch', bd') ∧ Op n v ρ (ns, nx) ch bd (ns', nx) ch' bd' := by
  have := Op.set (ch := ch) (bd := bd) (to := 0) (k := .M u) w hu (.inl rfl) (fun _ _ => rfl) h1 h2
  rw [setQ_vl] at this
  refine ⟨_, _, _, ?_, this⟩
  unfold F_impl_sharpener_one
  simp only [Int.toNat_natCast]
  rw [grd_t ⟨c0 u, cl hu⟩, f_set]
  rfl
theorem i_next (w : Wf n v (ns, nx)) (hn : n ≤ 10) (hu : u < n) (hx : x < n) : F_impl_sharpener_next n ns nx r ch bd (u : Int) (x : Int) = some (((u * n + x : Nat) : Int), ns, nx, ch, bd) := by
  have hr := nx_lt w hu hx
  unfold F_impl_sharpener_next
  rw [wi_idx hn hu hx, grd_t ⟨c0 _, hr⟩]
abbrev L4 := Bool × Bool × List NodeD × Int
theorem loop4x {body : L4 → Option (Ctl L4 Empty)} (ρ : Nat → SD → Prop) (m : Nat) (hm : m ≤ 1000) (w : Wf n v (ns, nx))
    (step : ∀ j ns1 ch1 bd1, j < m → Op n v (fun y => ∀ i, i < j → ρ i y) (ns, nx) ch bd (ns1, nx) ch1 bd1 → Wf n v (ns1, nx) →
      ∃ ns2 ch2 bd2, body (ch1, bd1, ns1, (j : Int)) = some (.go (ch2, bd2, ns2, ((j + 1 : Nat) : Int))) ∧ Op n v (fun y => (∀ i, i < j → ρ i y) ∧ ρ j y) (ns, nx) ch bd (ns2, nx) ch2 bd2)
    (stop : ∀ ns1 ch1 bd1, ∃ j', body (ch1, bd1, ns1, (m : Int)) = some (.out (ch1, bd1, ns1, j'))) :
    ∃ ns' ch' bd' j', loopO body fuel (ch, bd, ns, 0) = some (ch', bd', ns', j') ∧ Op n v (fun y => ∀ i, i < m → ρ i y) (ns, nx) ch bd (ns', nx) ch' bd' := by
  obtain ⟨s', hs, hp⟩ := loopO_inv (body := body) (s0 := (ch, bd, ns, 0)) (PO := fun s => Op n v (fun y => ∀ i, i < m → ρ i y) (ns, nx) ch bd (s.2.2.1, nx) s.1 s.2.1)
    (fun j s => s.2.2.2 = (j : Int) ∧ Op n v (fun y => ∀ i, i < j → ρ i y) (ns, nx) ch bd (s.2.2.1, nx) s.1 s.2.1) m (by omega) ⟨rfl, .start w⟩ (by
      rintro j ⟨ch1, bd1, ns1, j1⟩ hj ⟨h1, h2⟩
      simp only at h1 h2
      subst h1
      by_cases e : j = m
      · subst e
        obtain ⟨j', hb⟩ := stop ns1 ch1 bd1
        exact .inl ⟨_, hb, h2⟩
      obtain ⟨ns2, ch2, bd2, hb, ho⟩ := step j ns1 ch1 bd1 (by omega) h2 h2.wf
      exact .inr ⟨by omega, _, hb, rfl, ho.next w⟩)
  obtain ⟨ch', bd', ns', j'⟩ := s'
  exact ⟨ns', ch', bd', j', hs, hp⟩
theorem loop4 {body : L4 → Option (Ctl L4 Empty)} (ρ : Nat → SD → Prop) (m : Nat) (hm : m ≤ 1000) (w : Wf n v (ns, nx))
    (step : ∀ j ns1 ch1 bd1, j < m → Le n v (ns, nx) (ns1, nx) → Wf n v (ns1, nx) →
      ∃ ns2 ch2 bd2, body (ch1, bd1, ns1, (j : Int)) = some (.go (ch2, bd2, ns2, ((j + 1 : Nat) : Int))) ∧ Op n v (ρ j) (ns1, nx) ch1 bd1 (ns2, nx) ch2 bd2)
    (stop : ∀ ns1 ch1 bd1, ∃ j', body (ch1, bd1, ns1, (m : Int)) = some (.out (ch1, bd1, ns1, j'))) :
    ∃ ns' ch' bd' j', loopO body fuel (ch, bd, ns, 0) = some (ch', bd', ns', j') ∧ Op n v (fun y => ∀ i, i < m → ρ i y) (ns, nx) ch bd (ns', nx) ch' bd' :=
  loop4x ρ m hm w (fun j ns1 ch1 bd1 hj ho w1 => by
    obtain ⟨ns2, ch2, bd2, hb, ho2⟩ := step j ns1 ch1 bd1 hj ho.le w1
    exact ⟨ns2, ch2, bd2, hb, ho.comp ho2⟩) stop
/-! ### the second rule -/
theorem i_null (w : Wf n v (ns, nx)) (hn : n ≤ 10) (hz : z < v) :
    ∃ ns' nx' ch' bd', F_impl_sharpener_null n ns nx r ch bd (z : Int) = some (ns', nx', ch', bd') ∧ Op n v (Q2 n z) (ns, nx) ch bd (ns', nx') ch' bd' := by
  unfold F_impl_sharpener_null
  rcases loopR_inv (body := fun st : Int => F_impl_sharpener_null_b1 n z ns nx ch bd st) (s0 := 0) (PO := fun _ => ∀ u, u < n → getK (ns, nx) (.V u z) = 0) (PR := fun r => r = (ns, nx, ch, bd) ∧ ¬ ∀ u, u < n → getK (ns, nx) (.V u z) = 0)
    (fun j s => s = (j : Int) ∧ ∀ u, u < j → getK (ns, nx) (.V u z) = 0) n (by omega) ⟨rfl, fun u h => absurd h (by omega)⟩ (by
      rintro j s hj ⟨rfl, h2⟩
      unfold F_impl_sharpener_null_b1
      simp only [Int.toNat_natCast]
      by_cases e : j = n
      · subst e; exact .inl ⟨_, by rw [if_neg (by omega)], h2⟩
      · have hlt : j < n := by omega
        rw [if_pos (cl hlt), grd_t ⟨c0 _, cl hlt⟩, grd_t ⟨c0 _, len1 w hlt hz⟩]
        by_cases h0 : (ns.getD j dN).1.getD z 0 = 0
        · rw [if_pos h0]
          refine .inr (.inr ⟨hlt, _, by rw [wi_succ j (by omega)], rfl, fun u hu => ?_⟩)
          by_cases eu : u = j
          · subst eu; exact h0
          · exact h2 u (by omega)
        · rw [if_neg h0]
          exact .inr (.inl ⟨_, rfl, rfl, fun h => h0 (h j hlt)⟩)) with ⟨s', hs, hp⟩ | ⟨r', hs, rfl, hr⟩
  · rw [hs]
    simp only [Option.bind_some, Sum.elim_inr]
    obtain ⟨ns', ch', bd', j', h1, o1⟩ := loop4 (n := n) (v := v) (ch := ch) (bd := bd) (body := fun st : L4 => F_impl_sharpener_null_b2 n z st.1 st.2.1 st.2.2.1 st.2.2.2) (fun u y => (∀ u, u < n → getK y (.V u z) = 0) → getK y (.R u z) = 0) n (by omega) w (fun u ns1 ch1 bd1 hu hl w1 => by
      unfold F_impl_sharpener_null_b2
      simp only [Int.toNat_natCast]
      rw [if_pos (cl hu), grd_t ⟨c0 _, cl hu⟩, grd_t ⟨c0 _, len2 w1 hu hz⟩, f_set]
      simp only [Option.bind_some]
      obtain ⟨ns4, ch4, bd4, e1, e2, e3, o4⟩ := i_R (ch := ch1) (bd := bd1) (ρ := fun y => (∀ u, u < n → getK y (.V u z) = 0) → getK y (.R u z) = 0) (to := 0) w1 hu hz (.inl rfl) (fun e _ => e) fun y _ h hl' => h fun u' hu' => (hl.trans hl').def (k := .V u' z) ⟨hu', hz⟩ (hp u' hu') (by omega)
      rw [e1, e2, e3]
      exact ⟨ns4, ch4, bd4, by rw [wi_succ u (by omega)], o4⟩) (fun ns1 ch1 bd1 => ⟨n, by simp [F_impl_sharpener_null_b2]⟩)
    rw [h1]
    exact ⟨ns', nx, ch', bd', rfl, o1.weak (fun y _ => ⟨fun h e u hu => h u hu e, fun h u hu e => h e u hu⟩) w⟩
  · rw [hs]
    exact ⟨ns, nx, ch, bd, rfl, .skip w fun h => absurd h hr⟩
/-! ### the first -/
theorem pointed_b1 (w : Wf n v (ns, nx)) (hn : n ≤ 10) (hu : u < n) (hz : z < v) (hC : getK (ns, nx) (.V u z) = 2) :
    ∃ ns' ch' bd' j', loopO (fun st : L4 => F_impl_sharpener_pointed_b1 n u z st.1 st.2.1 st.2.2.1 st.2.2.2) fuel (ch, bd, ns, 0) = some (ch', bd', ns', j') ∧
      Op n v (fun y => ∀ x, x < n → x ≠ u → getK y (.V u z) = 2 → getK y (.V x z) = 0) (ns, nx) ch bd (ns', nx) ch' bd' := by
  refine loop4 (fun x y => x ≠ u → getK y (.V u z) = 2 → getK y (.V x z) = 0) n (by omega) w (fun x ns1 ch1 bd1 hx hl w1 => ?_) (fun ns1 ch1 bd1 => ⟨n, by simp [F_impl_sharpener_pointed_b1]⟩)
  unfold F_impl_sharpener_pointed_b1
  simp only [Int.toNat_natCast]
  by_cases e : x = u
  · rw [if_pos (cl hx), if_pos (show (x : Int) = (u : Int) by omega)]
    exact ⟨ns1, ch1, bd1, by rw [wi_succ x (by omega)], .skip w1 fun h => absurd e h⟩
  · rw [if_pos (cl hx), if_neg (show ¬ (x : Int) = (u : Int) by omega), grd_t ⟨c0 _, cl hx⟩, grd_t ⟨c0 _, len1 w1 hx hz⟩, f_set]
    simp only [Option.bind_some]
    obtain ⟨ns4, ch4, bd4, e1, e2, e3, o4⟩ := i_V (ch := ch1) (bd := bd1) (ρ := fun y => x ≠ u → getK y (.V u z) = 2 → getK y (.V x z) = 0) (to := 0) w1 hx hz (.inl rfl) (fun e _ _ => e) fun y _ h hl' => h e ((hl.trans hl').def (k := .V u z) ⟨hu, hz⟩ hC (by omega))
    rw [e1, e2, e3]
    exact ⟨ns4, ch4, bd4, by rw [wi_succ x (by omega)], o4⟩
theorem i_pointed (w : Wf n v (ns, nx)) (hn : n ≤ 10) (hz : z < v) (hu : u < n) :
    ∃ ns' nx' ch' bd', F_impl_sharpener_pointed n ns nx r ch bd (z : Int) (u : Int) = some (ns', nx', ch', bd') ∧ Op n v (Q1 n z u) (ns, nx) ch bd (ns', nx') ch' bd' := by
  unfold F_impl_sharpener_pointed
  simp only [Int.toNat_natCast]
  rw [grd_t ⟨c0 _, cl hu⟩, grd_t ⟨c0 _, len1 w hu hz⟩]
  by_cases hV : (ns.getD u dN).1.getD z 0 = 2
  · have hP : ∀ q', Le n v (ns, nx) q' → getK q' (.V u z) = 2 := fun q' hl => hl.def (k := .V u z) ⟨hu, hz⟩ hV (by omega)
    rw [if_pos hV]
    obtain ⟨ns2, ch2, bd2, h2, o2⟩ := i_one (r := r) (ch := ch) (bd := bd) (ρ := fun y => getK y (.V u z) = 2 → getK y (.M u) = 0) w hu (fun e _ => e) fun y _ h hl => h (hP y hl)
    rw [h2]
    simp only [Option.bind_some]
    obtain ⟨ns3, ch3, bd3, j3, h3, o3⟩ := pointed_b1 (ch := ch2) (bd := bd2) o2.wf hn hu hz (hP _ o2.le)
    rw [h3]
    simp only [Option.bind_some]
    rw [grd_t ⟨c0 _, len2 o3.wf hu hz⟩, f_set]
    simp only [Option.bind_some]
    obtain ⟨ns4, ch4, bd4, e1, e2, e3, o4⟩ := i_R (ch := ch3) (bd := bd3) (ρ := fun y => getK y (.V u z) = 2 → getK y (.R u z) = 2) (to := 2) o3.wf hu hz (.inr rfl) (fun e _ => e) fun y _ h hl => h (hP y (o2.le.trans (o3.le.trans hl)))
    rw [e1, e2, e3]
    refine ⟨ns4, nx, ch4, bd4, rfl, (o2.comp (o3.comp o4)).weak (fun y _ => ?_) w⟩
    exact ⟨fun ⟨a, b, c⟩ h => ⟨a h, fun w hw hne => b w hw hne h, c h⟩, fun h => ⟨fun e => (h e).1, fun w hw hne e => (h e).2.1 w hw hne, fun e => (h e).2.2⟩⟩
  · rw [if_neg hV]
    exact ⟨ns, nx, ch, bd, rfl, .skip w fun h => absurd h hV⟩
/-! ### the fourth -/
theorem i_followed (w : Wf n v (ns, nx)) (hn : n ≤ 10) (hz : z < v) (hu : u < n) (hx : x < n) :
    ∃ ns' nx' ch' bd', F_impl_sharpener_followed n ns nx r ch bd (z : Int) (u : Int) (x : Int) = some (ns', nx', ch', bd') ∧ Op n v (Q4 n z u x) (ns, nx) ch bd (ns', nx') ch' bd' := by
  unfold F_impl_sharpener_followed
  simp only [Int.toNat_natCast]
  have hr := nx_lt w hu hx
  rw [grd_t ⟨c0 _, cl hu⟩, grd_t ⟨c0 _, len2 w hu hz⟩]
  by_cases hR : (ns.getD u dN).2.1.getD z 0 = 2
  · rw [if_pos hR, i_next w hn hu hx]
    simp only [Option.bind_some, Int.toNat_natCast]
    rw [grd_t ⟨c0 _, hr⟩]
    by_cases h2 : nx.getD (u * n + x) 0 = 2
    · rw [if_pos h2, grd_t ⟨c0 _, cl hx⟩, grd_t ⟨c0 _, len2 w hx hz⟩, f_set]
      simp only [Option.bind_some]
      obtain ⟨ns4, ch4, bd4, e1, e2, e3, o4⟩ := i_R (ch := ch) (bd := bd) (ρ := Q4 n z u x) (to := 2) w hx hz (.inr rfl) (fun e _ => ⟨fun _ => e, fun h => by have := h.2; omega⟩) fun y _ h hl => (h (hl.def (k := .R u z) ⟨hu, hz⟩ hR (by omega))).1 (hl.def (k := .X (u * n + x)) (idx_lt hu hx) h2 (by omega))
      rw [e1, e2, e3]
      exact ⟨ns4, nx, ch4, bd4, rfl, o4⟩
    · rw [if_neg h2]
      by_cases h1 : nx.getD (u * n + x) 0 = 1
      · rw [if_pos h1, grd_t ⟨c0 _, cl hx⟩, grd_t ⟨c0 _, len2 w hx hz⟩]
        by_cases h0 : (ns.getD x dN).2.1.getD z 0 = 0
        · rw [if_pos h0, i_next w hn hu hx]
          simp only [Option.bind_some, Int.toNat_natCast]
          rw [grd_t ⟨c0 _, hr⟩, f_set]
          simp only [Option.bind_some]
          have h1' : getK (ns, nx) (.X (u * n + x)) = 1 := h1
          obtain ⟨nx4, ch4, bd4, e1, e2, e3, o4⟩ := i_X (ns := ns) (nx := nx) (i := u * n + x) (ch := ch) (bd := bd) (ρ := Q4 n z u x) (to := 0) w (idx_lt hu hx) (.inl rfl) (fun e => by omega) fun y wy h hl => four_sound wy hu hx hz hl hR h0 h
          rw [e1, e2, e3]
          exact ⟨ns, nx4, ch4, bd4, rfl, o4⟩
        · rw [if_neg h0]
          exact ⟨ns, nx, ch, bd, rfl, .skip w fun _ => ⟨fun e => absurd e h2, fun e => h0 e.2⟩⟩
      · rw [if_neg h1]
        exact ⟨ns, nx, ch, bd, rfl, .skip w fun _ => ⟨fun e => absurd e h2, fun e => h1 e.1⟩⟩
  · rw [if_neg hR]
    exact ⟨ns, nx, ch, bd, rfl, .skip w fun h => absurd h hR⟩
/-! ### the fifth -/
theorem i_setX {ρ : SD → Prop} {k : Nat} (w : Wf n v (ns, nx)) (hn : n ≤ 10) (hu : u < n) (hx : x < n) (h1 : getK (ns, nx) (.X (u * n + x)) = 0 → ρ (ns, nx)) (h2 : ∀ y, Wf n v y → ρ y → Le n v (ns, nx) y → getK y (.X (u * n + x)) = 0) :
    ∃ nx' ch' bd', ((F_impl_sharpener_next n ns nx r ch bd (u : Int) (x : Int)).bind fun y => grd (0 ≤ y.1 ∧ y.1 < (y.2.2.1.length : Int)) ((F_set (y.2.2.1.getD y.1.toNat 0) 0 y.2.2.2.1 y.2.2.2.2).bind fun y2 => some (y.2.1, y.2.2.1.set y.1.toNat y2.1, y2.2.1, y2.2.2))) = some (ns, nx', ch', bd') ∧ Op n v ρ (ns, nx) ch bd (ns, nx') ch' bd' := by
  rw [i_next w hn hu hx]
  simp only [Option.bind_some, Int.toNat_natCast]
  rw [grd_t ⟨c0 _, nx_lt w hu hx⟩, f_set]
  simp only [Option.bind_some]
  obtain ⟨nx4, ch4, bd4, e1, e2, e3, o4⟩ := i_X (ns := ns) (nx := nx) (i := u * n + x) (ch := ch) (bd := bd) (ρ := ρ) (to := 0) w (idx_lt hu hx) (.inl rfl) h1 h2
  rw [e1, e2, e3]
  exact ⟨nx4, ch4, bd4, rfl, o4⟩
theorem i_acyclic_b2 (w : Wf n v (ns, nx)) (hn : n ≤ 10) (hv : v ≤ 4) (hu : u < n) :
    ∃ ns' nx' ch' bd' j', loopO (fun st : LS => F_impl_sharpener_acyclic_b2 v n u st.1 st.2.1 st.2.2.1 st.2.2.2.1 st.2.2.2.2) fuel (ch, bd, ns, nx, 0) = some (ch', bd', ns', nx', j') ∧
      Op n v (fun y => ∀ z, z < v → ∀ x, x < n → Q5b n z u x y) (ns, nx) ch bd (ns', nx') ch' bd' := by
  refine loop_op (fun z y => ∀ x, x < n → Q5b n z u x y) v (by omega) w (fun z ns1 nx1 ch1 bd1 hz hl w1 => .inl ?_) (fun ns1 nx1 ch1 bd1 => ⟨v, by simp [F_impl_sharpener_acyclic_b2]⟩)
  unfold F_impl_sharpener_acyclic_b2
  rw [if_pos (cl hz)]
  obtain ⟨ns2, nx2, ch2, bd2, j2, h2, o2⟩ := loop_op (n := n) (v := v) (ch := ch1) (bd := bd1) (body := fun st : LS => F_impl_sharpener_acyclic_b1 n z u v st.1 st.2.1 st.2.2.1 st.2.2.2.1 st.2.2.2.2) (fun x y => Q5b n z u x y) n (by omega) w1 (fun x ns1 nx1 ch1 bd1 hx hl w1 => .inl (by
    unfold F_impl_sharpener_acyclic_b1
    simp only [Int.toNat_natCast]
    rw [if_pos (cl hx), grd_t ⟨c0 _, len1 w1 hu hz⟩]
    by_cases hV : (ns1.getD u dN).1.getD z 0 = 2
    · rw [if_pos hV, grd_t ⟨c0 _, cl hx⟩, grd_t ⟨c0 _, len2 w1 hx hz⟩]
      by_cases hR : (ns1.getD x dN).2.1.getD z 0 = 2
      · rw [if_pos hR, i_next w1 hn hx hu]
        simp only [Option.bind_some, Int.toNat_natCast]
        rw [grd_t ⟨c0 _, nx_lt w1 hx hu⟩, f_set]
        simp only [Option.bind_some]
        obtain ⟨nx4, ch4, bd4, e1, e2, e3, o4⟩ := i_X (ns := ns1) (nx := nx1) (i := x * n + u) (ch := ch1) (bd := bd1) (ρ := Q5b n z u x) (to := 0) w1 (idx_lt hx hu) (.inl rfl) (fun e _ _ => e) fun y wy h hl => h (hl.def (k := .V u z) ⟨hu, hz⟩ hV (by omega)) (hl.def (k := .R x z) ⟨hx, hz⟩ hR (by omega))
        rw [e1, e2, e3]
        exact ⟨ns1, nx4, ch4, bd4, by rw [wi_succ x (by omega)], o4⟩
      · rw [if_neg hR]
        exact ⟨ns1, nx1, ch1, bd1, by rw [wi_succ x (by omega)], .skip w1 fun _ h => absurd h hR⟩
    · rw [if_neg hV]
      exact ⟨ns1, nx1, ch1, bd1, by rw [wi_succ x (by omega)], .skip w1 fun h => absurd h hV⟩)) (fun ns1 nx1 ch1 bd1 => ⟨n, by simp [F_impl_sharpener_acyclic_b1]⟩)
  rw [h2]
  exact ⟨ns2, nx2, ch2, bd2, by simp only [Option.bind_some]; rw [wi_succ z (by omega)], o2⟩
theorem i_acyclic (w : Wf n v (ns, nx)) (hn : n ≤ 10) (hv : v ≤ 4) (hu : u < n) :
    ∃ ns' nx' ch' bd', F_impl_sharpener_acyclic n ns nx v ch bd (u : Int) = some (ns', nx', ch', bd') ∧ Op n v (fun y => Q5a n u y ∧ ∀ z, z < v → ∀ x, x < n → Q5b n z u x y) (ns, nx) ch bd (ns', nx') ch' bd' := by
  unfold F_impl_sharpener_acyclic
  simp only [Int.toNat_natCast]
  rw [grd_t ⟨c0 _, cl hu⟩]
  by_cases hM : (ns.getD u dN).2.2.2 = 0
  · rw [if_pos hM, i_next w hn hu hu]
    simp only [Option.bind_some, Int.toNat_natCast]
    rw [grd_t ⟨c0 _, nx_lt w hu hu⟩, f_set]
    simp only [Option.bind_some]
    obtain ⟨nx4, ch4, bd4, e1, e2, e3, o4⟩ := i_X (ns := ns) (nx := nx) (i := u * n + u) (ch := ch) (bd := bd) (ρ := Q5a n u) (to := 0) w (idx_lt hu hu) (.inl rfl) (fun e _ => e) fun y wy h hl => h (hl.def (k := .M u) hu hM (by omega))
    rw [e1, e2, e3]
    obtain ⟨ns2, nx2, ch2, bd2, j2, h2, o2⟩ := i_acyclic_b2 (ch := ch4) (bd := bd4) o4.wf hn hv hu
    rw [h2]
    exact ⟨ns2, nx2, ch2, bd2, rfl, o4.comp o2⟩
  · rw [if_neg hM]
    obtain ⟨ns2, nx2, ch2, bd2, j2, h2, o2⟩ := i_acyclic_b2 (ch := ch) (bd := bd) w hn hv hu
    rw [h2]
    exact ⟨ns2, nx2, ch2, bd2, rfl, (Op.skip w (show Q5a n u (ns, nx) from fun h => absurd h hM)).comp o2⟩
/-! ### the eighth -/
theorem i_met (w : Wf n v (ns, nx)) (hn : n ≤ 10) (hv : v ≤ 4) (hx : x < n) :
    ∃ ns' nx' ch' bd', F_impl_sharpener_met n ns nx r ch bd (x : Int) = some (ns', nx', ch', bd') ∧ Op n v (Q8 v x) (ns, nx) ch bd (ns', nx') ch' bd' := by
  unfold F_impl_sharpener_met
  have hr2 : (ns.getD x dN).2.1.length = v := w.row2 x hx
  rw [grd_t ⟨c0 _, cl hx⟩]
  rcases loopR_inv (body := fun st : Int => F_impl_sharpener_met_b1 ns x nx ch bd st) (s0 := 0) (PO := fun _ => ∀ z, z < v → getK (ns, nx) (.R x z) = 0) (PR := fun r => r = (ns, nx, ch, bd) ∧ Q8 v x (ns, nx))
    (fun j s => s = (j : Int) ∧ ∀ z, z < j → getK (ns, nx) (.R x z) = 0) v (by omega) ⟨rfl, fun u h => absurd h (by omega)⟩ (by
      rintro j s hj ⟨rfl, h2⟩
      unfold F_impl_sharpener_met_b1
      simp only [Int.toNat_natCast, hr2]
      by_cases e : j = v
      · subst e; exact .inl ⟨_, by rw [if_neg (by omega)], h2⟩
      · have hlt : j < v := by omega
        rw [if_pos (cl hlt), grd_t ⟨c0 _, cl hlt⟩]
        by_cases h0 : (ns.getD x dN).2.1.getD j 0 = 0
        · rw [if_pos h0]
          refine .inr (.inr ⟨hlt, _, by rw [wi_succ j (by omega)], rfl, fun u hu => ?_⟩)
          by_cases eu : u = j
          · subst eu; exact h0
          · exact h2 u (by omega)
        · rw [if_neg h0]
          exact .inr (.inl ⟨_, rfl, rfl, j, hlt, h0⟩)) with ⟨s', hs, hp⟩ | ⟨r', hs, rfl, hr⟩
  · rw [hs]
    refine ⟨ns, nx, ch, true, rfl, Op.wrong w fun y _ hy hl => ?_⟩
    obtain ⟨z, hz, hne⟩ := hy
    exact hne (hl.def (k := .R x z) ⟨hx, hz⟩ (hp z hz) (by omega))
  · rw [hs]
    exact ⟨ns, nx, ch, bd, rfl, .skip w hr⟩
end
end Go.Proofs.Ytpfibofoeblapaa
