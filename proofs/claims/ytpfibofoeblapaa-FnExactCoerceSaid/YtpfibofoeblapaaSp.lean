/- Sharpening, as the reference does it. -/
import Derived.Test.YtpfibofoeblapaaS2
set_option linter.unusedVariables false
set_option linter.unusedSimpArgs false
namespace Go.Proofs.Ytpfibofoeblapaa
open Go
section
variable {n v : Nat} {ns : List NodeD} {nx : List Int} {ch bd : Bool} {to : Int} {u x z : Nat} {r : Int}
theorem cl {a b : Nat} (h : a < b) : (a : Int) < (b : Int) := by omega
theorem c0 (a : Nat) : (0 : Int) ≤ (a : Int) := by omega
theorem s_one (w : Wf n v (ns, nx)) (hu : u < n) : F_spec_l20One r n ns nx ch bd (u : Int) = some (tp (setQ (ns, nx) (.M u) 0 ch bd)) := by
  unfold F_spec_l20One
  rw [grd_t ⟨c0 u, cl hu⟩, f_value _ _ _ _ _ _ _ _ (by omega), setQ_vl]
  rfl
theorem s_reach (w : Wf n v (ns, nx)) (hu : u < n) (hz : z < v) (hto : to ≠ 1) : F_spec_l20Reach r n ns nx ch bd (z : Int) (u : Int) to = some (tp (setQ (ns, nx) (.R u z) to ch bd)) := by
  have hr : (z : Int) < (((ns.getD u dN).2.1).length : Int) := by have := w.row2 u hu; simp only at this; rw [this]; exact cl hz
  unfold F_spec_l20Reach
  simp only [Int.toNat_natCast]
  rw [grd_t ⟨c0 u, cl hu⟩, grd_t ⟨c0 z, hr⟩, f_value _ _ _ _ _ _ _ _ hto, setQ_vl]
  simp only [Option.bind_some]
  rw [grd_t ⟨c0 z, hr⟩]
  rfl
theorem nx_lt (w : Wf n v (ns, nx)) (hu : u < n) (hx : x < n) : ((u * n + x : Nat) : Int) < (nx.length : Int) := by have := w.nx; simp only at this; rw [this]; exact cl (idx_lt hu hx)
theorem s_next (w : Wf n v (ns, nx)) (hn : n ≤ 10) (hu : u < n) (hx : x < n) (hto : to ≠ 1) : F_spec_l20Next r n ns nx ch bd (u : Int) (x : Int) to = some (tp (setQ (ns, nx) (.X (u * n + x)) to ch bd)) := by
  have hr := nx_lt w hu hx
  unfold F_spec_l20Next
  rw [wi_idx hn hu hx]
  simp only [Int.toNat_natCast]
  rw [grd_t ⟨c0 _, hr⟩, f_value _ _ _ _ _ _ _ _ hto, setQ_vl]
  simp only [Option.bind_some]
  rw [grd_t ⟨c0 _, hr⟩]
  rfl
theorem f_l1In (a lo hi : Int) : F_spec_l1In a lo hi = some (decide (lo ≤ a ∧ a ≤ hi)) := by
  unfold F_spec_l1In
  by_cases h : a ≥ lo
  · rw [if_pos h]; simp [show lo ≤ a from h]
  · rw [if_neg h]; simp; omega
theorem s_nextOf (w : Wf n v (ns, nx)) (hn : n ≤ 10) (hu : u < n) (hx : x < n) : F_spec_NextOf (ns, nx) (u : Int) (x : Int) = some (getK (ns, nx) (.X (u * n + x))) := by
  have hr := nx_lt w hu hx
  have hl : ns.length = n := w.len
  have hl2 : nx.length = n * n := w.nx
  unfold F_spec_NextOf
  rw [f_l1In, f_l1In]
  simp only [Option.bind_some, hl]
  rw [if_pos (by simp; omega), if_pos (by simp; omega), if_pos (by rw [hl2, wi_nn hn]), wi_idx hn hu hx, grd_t ⟨c0 _, hr⟩]
  rfl
theorem e_one {ρ : SD → Prop} (w : Wf n v (ns, nx)) (hu : u < n) (h1 : getK (ns, nx) (.M u) = 0 → ρ (ns, nx)) (h2 : ∀ y, Wf n v y → ρ y → Le n v (ns, nx) y → getK y (.M u) = 0) :
    ∃ ns' nx' ch' bd', F_spec_l20One r n ns nx ch bd (u : Int) = some (ns', nx', ch', bd') ∧ Op n v ρ (ns, nx) ch bd (ns', nx') ch' bd' :=
  ⟨_, _, _, _, s_one w hu, .set w hu (.inl rfl) (fun _ _ => rfl) h1 h2⟩
theorem e_reach {ρ : SD → Prop} (w : Wf n v (ns, nx)) (hu : u < n) (hz : z < v) (hto : to = 0 ∨ to = 2) (h1 : getK (ns, nx) (.R u z) = to → ρ (ns, nx)) (h2 : ∀ y, Wf n v y → ρ y → Le n v (ns, nx) y → getK y (.R u z) = to) :
    ∃ ns' nx' ch' bd', F_spec_l20Reach r n ns nx ch bd (z : Int) (u : Int) to = some (ns', nx', ch', bd') ∧ Op n v ρ (ns, nx) ch bd (ns', nx') ch' bd' :=
  ⟨_, _, _, _, s_reach w hu hz (by omega), .set w ⟨hu, hz⟩ hto (by simp) h1 h2⟩
theorem e_next {ρ : SD → Prop} (w : Wf n v (ns, nx)) (hn : n ≤ 10) (hu : u < n) (hx : x < n) (hto : to = 0 ∨ to = 2) (h1 : getK (ns, nx) (.X (u * n + x)) = to → ρ (ns, nx)) (h2 : ∀ y, Wf n v y → ρ y → Le n v (ns, nx) y → getK y (.X (u * n + x)) = to) :
    ∃ ns' nx' ch' bd', F_spec_l20Next r n ns nx ch bd (u : Int) (x : Int) to = some (ns', nx', ch', bd') ∧ Op n v ρ (ns, nx) ch bd (ns', nx') ch' bd' :=
  ⟨_, _, _, _, s_next w hn hu hx (by omega), .set w (idx_lt hu hx) hto (by simp) h1 h2⟩
theorem len1 (w : Wf n v (ns, nx)) (hu : u < n) (hz : z < v) : (z : Int) < (((ns.getD u dN).1).length : Int) := by have := w.row1 u hu; simp only at this; rw [this]; exact cl hz
theorem len2 (w : Wf n v (ns, nx)) (hu : u < n) (hz : z < v) : (z : Int) < (((ns.getD u dN).2.1).length : Int) := by have := w.row2 u hu; simp only at this; rw [this]; exact cl hz
/-! ### rules 1 and 2 -/
theorem vars_b1 (w : Wf n v (ns, nx)) (hn : n ≤ 10) (hu : u < n) (hz : z < v) (hC : getK (ns, nx) (.V u z) = 2) :
    ∃ ns' nx' ch' bd' j', loopO (fun st : LS => F_spec_l20Vars_b1 n u z v st.1 st.2.1 st.2.2.1 st.2.2.2.1 st.2.2.2.2) fuel (ch, bd, ns, nx, 0) = some (ch', bd', ns', nx', j') ∧
      Op n v (fun y => ∀ x, x < n → x ≠ u → getK y (.V u z) = 2 → getK y (.V x z) = 0) (ns, nx) ch bd (ns', nx') ch' bd' := by
  refine loop_op (fun x y => x ≠ u → getK y (.V u z) = 2 → getK y (.V x z) = 0) n (by omega) w (fun x ns1 nx1 ch1 bd1 hx hl w1 => .inl ?_) (fun ns1 nx1 ch1 bd1 => ⟨n, by simp [F_spec_l20Vars_b1]⟩)
  by_cases e : x = u
  · refine ⟨ns1, nx1, ch1, bd1, ?_, .skip w1 fun h => absurd e h⟩
    unfold F_spec_l20Vars_b1
    rw [if_pos (cl hx), if_pos (by simp [e]), wi_succ x (by omega)]
  · have hr : (z : Int) < (((ns1.getD x dN).1).length : Int) := by have := w1.row1 x hx; simp only at this; rw [this]; exact cl hz
    refine ⟨_, _, _, _, ?_, (Op.setIf (k := .V x z) (to := 0) (ch := ch1) (bd := bd1) (fun y => getK y (.V u z) = 2) w1 ⟨hx, hz⟩ (.inl rfl) (by simp) fun y _ hy => (hl.trans hy).def (k := .V u z) ⟨hu, hz⟩ hC (by omega)).weak (fun y _ => ⟨fun h _ => h, fun h => h e⟩) w1⟩
    unfold F_spec_l20Vars_b1
    simp only [Int.toNat_natCast]
    rw [if_pos (cl hx), if_neg (by omega), grd_t ⟨c0 _, cl hx⟩, grd_t ⟨c0 _, hr⟩, f_value _ _ _ _ _ _ _ _ (by omega)]
    simp only [Option.bind_some]
    rw [grd_t ⟨c0 _, hr⟩, wi_succ x (by omega), setQ_vl]
    rfl
theorem vars_b2 (w : Wf n v (ns, nx)) (hn : n ≤ 10) (hz : z < v) :
    ∃ ns' nx' ch' bd' j', loopO (fun st : LS => F_spec_l20Vars_b2 n z v st.1 st.2.1 st.2.2.1 st.2.2.2.1 st.2.2.2.2) fuel (ch, bd, ns, nx, 0) = some (ch', bd', ns', nx', j') ∧
      Op n v (fun y => ∀ u, u < n → Q1 n z u y) (ns, nx) ch bd (ns', nx') ch' bd' := by
  refine loop_op (fun u y => Q1 n z u y) n (by omega) w (fun u ns1 nx1 ch1 bd1 hu hl w1 => ?_) (fun ns1 nx1 ch1 bd1 => ⟨n, by simp [F_spec_l20Vars_b2]⟩)
  cases bd1 with
  | true => exact .inr ⟨rfl, u, by unfold F_spec_l20Vars_b2; rw [if_pos (cl hu), if_pos rfl]⟩
  | false =>
    refine .inl ?_
    unfold F_spec_l20Vars_b2
    simp only [Int.toNat_natCast]
    rw [if_pos (cl hu), if_neg (by simp), grd_t ⟨c0 _, cl hu⟩, grd_t ⟨c0 _, len1 w1 hu hz⟩]
    by_cases hV : (ns1.getD u dN).1.getD z 0 = 2
    · have hP : ∀ q', Le n v (ns1, nx1) q' → getK q' (.V u z) = 2 := fun q' hl => hl.def (k := .V u z) ⟨hu, hz⟩ hV (by omega)
      rw [if_pos hV]
      obtain ⟨ns2, nx2, ch2, bd2, h2, o2⟩ := e_one (r := (v : Int)) (ch := ch1) (bd := false) (ρ := fun y => getK y (.V u z) = 2 → getK y (.M u) = 0) w1 hu (fun e _ => e) fun y _ h hl => h (hP y hl)
      rw [h2]
      simp only [Option.bind_some]
      obtain ⟨ns3, nx3, ch3, bd3, j3, h3, o3⟩ := vars_b1 (ch := ch2) (bd := bd2) o2.wf hn hu hz (hP _ o2.le)
      rw [h3]
      simp only [Option.bind_some]
      obtain ⟨ns4, nx4, ch4, bd4, h4, o4⟩ := e_reach (r := (v : Int)) (ch := ch3) (bd := bd3) (ρ := fun y => getK y (.V u z) = 2 → getK y (.R u z) = 2) (to := 2) o3.wf hu hz (.inr rfl) (fun e _ => e) fun y _ h hl => h (hP y (o2.le.trans (o3.le.trans hl)))
      rw [h4]
      simp only [Option.bind_some]
      refine ⟨ns4, nx4, ch4, bd4, by rw [wi_succ u (by omega)], (o2.comp (o3.comp o4)).weak (fun y _ => ?_) w1⟩
      exact ⟨fun ⟨a, b, c⟩ h => ⟨a h, fun w hw hne => b w hw hne h, c h⟩, fun h => ⟨fun e => (h e).1, fun w hw hne e => (h e).2.1 w hw hne, fun e => (h e).2.2⟩⟩
    · rw [if_neg hV]
      exact ⟨ns1, nx1, ch1, false, by rw [wi_succ u (by omega)], .skip w1 fun h => absurd h hV⟩
theorem vars_b3 (w : Wf n v (ns, nx)) (hn : n ≤ 10) (hv : v ≤ 4) :
    ∃ ns' nx' ch' bd' j', loopO (fun st : LS => F_spec_l20Vars_b3 v n st.1 st.2.1 st.2.2.1 st.2.2.2.1 st.2.2.2.2) fuel (ch, bd, ns, nx, 0) = some (ch', bd', ns', nx', j') ∧
      Op n v (fun y => ∀ z, z < v → ∀ u, u < n → Q1 n z u y) (ns, nx) ch bd (ns', nx') ch' bd' := by
  refine loop_op (fun z y => ∀ u, u < n → Q1 n z u y) v (by omega) w (fun z ns1 nx1 ch1 bd1 hz hl w1 => .inl ?_) (fun ns1 nx1 ch1 bd1 => ⟨v, by simp [F_spec_l20Vars_b3]⟩)
  unfold F_spec_l20Vars_b3
  rw [if_pos (cl hz)]
  obtain ⟨ns2, nx2, ch2, bd2, j2, h2, o2⟩ := vars_b2 (ch := ch1) (bd := bd1) w1 hn hz
  rw [h2]
  exact ⟨ns2, nx2, ch2, bd2, by simp only [Option.bind_some]; rw [wi_succ z (by omega)], o2⟩
theorem vars_b4 (w : Wf n v (ns, nx)) (hn : n ≤ 10) (hz : z < v) :
    ∃ b j', loopO (fun st : Bool × Int => F_spec_l20Vars_b4 n z ns st.1 st.2) fuel (true, 0) = some (b, j') ∧ (b = true ↔ ∀ u, u < n → getK (ns, nx) (.V u z) = 0) := by
  obtain ⟨⟨b, j'⟩, hs, hp⟩ := loopO_inv (body := fun st : Bool × Int => F_spec_l20Vars_b4 n z ns st.1 st.2) (s0 := (true, 0)) (PO := fun s => s.1 = true ↔ ∀ u, u < n → getK (ns, nx) (.V u z) = 0)
    (fun j s => s.2 = (j : Int) ∧ (s.1 = true ↔ ∀ u, u < j → getK (ns, nx) (.V u z) = 0)) n (by omega) ⟨rfl, by simp⟩ (by
      rintro j ⟨b, j1⟩ hj ⟨h1, h2⟩
      simp only at h1 h2
      subst h1
      by_cases e : j = n
      · subst e
        exact .inl ⟨(b, (j : Int)), by simp [F_spec_l20Vars_b4], h2⟩
      · have hlt : j < n := by omega
        refine .inr ⟨hlt, ?_⟩
        simp only [F_spec_l20Vars_b4, Int.toNat_natCast]
        rw [if_pos (cl hlt)]
        cases b with
        | true =>
          rw [if_pos rfl, grd_t ⟨c0 _, cl hlt⟩, grd_t ⟨c0 _, len1 w hlt hz⟩]
          refine ⟨_, by rw [wi_succ j (by omega)], rfl, ?_⟩
          simp only [decide_eq_true_eq]
          have h2 := h2.1 rfl
          exact ⟨fun h u hu => by
            by_cases eu : u = j
            · exact eu ▸ h
            · exact h2 u (by omega), fun h => h j (by omega)⟩
        | false =>
          rw [if_neg (by simp)]
          refine ⟨_, by rw [wi_succ j (by omega)], rfl, ?_⟩
          simp only [Bool.false_eq_true, false_iff] at h2 ⊢
          exact fun h => h2 fun u hu => h u (by omega))
  exact ⟨b, j', hs, hp⟩
theorem vars_b5 {b : Bool} {j : Int} (w : Wf n v (ns, nx)) (hn : n ≤ 10) (hz : z < v) (hb : b = true ↔ ∀ u, u < n → getK (ns, nx) (.V u z) = 0) :
    ∃ ns' nx' ch' bd' j', loopO (fun st : LS => F_spec_l20Vars_b5 n (b, j) v z st.1 st.2.1 st.2.2.1 st.2.2.2.1 st.2.2.2.2) fuel (ch, bd, ns, nx, 0) = some (ch', bd', ns', nx', j') ∧
      Op n v (Q2 n z) (ns, nx) ch bd (ns', nx') ch' bd' := by
  cases b with
  | true =>
    have hC := hb.1 rfl
    obtain ⟨ns', nx', ch', bd', j', h1, h2⟩ := loop_op (n := n) (v := v) (ch := ch) (bd := bd) (body := fun st : LS => F_spec_l20Vars_b5 n (true, j) v z st.1 st.2.1 st.2.2.1 st.2.2.2.1 st.2.2.2.2) (fun u y => (∀ u, u < n → getK y (.V u z) = 0) → getK y (.R u z) = 0) n (by omega) w (fun u ns1 nx1 ch1 bd1 hu hl w1 => .inl (by
      unfold F_spec_l20Vars_b5
      rw [if_pos (cl hu), if_pos rfl]
      obtain ⟨ns4, nx4, ch4, bd4, h4, o4⟩ := e_reach (r := (v : Int)) (ch := ch1) (bd := bd1) (ρ := fun y => (∀ u, u < n → getK y (.V u z) = 0) → getK y (.R u z) = 0) (to := 0) w1 hu hz (.inl rfl) (fun e _ => e) fun y _ h hl' => h fun u' hu' => (hl.trans hl').def (k := .V u' z) ⟨hu', hz⟩ (hC u' hu') (by omega)
      rw [h4]
      exact ⟨ns4, nx4, ch4, bd4, by simp only [Option.bind_some]; rw [wi_succ u (by omega)], o4⟩)) (fun ns1 nx1 ch1 bd1 => ⟨n, by simp [F_spec_l20Vars_b5]⟩)
    exact ⟨ns', nx', ch', bd', j', h1, h2.weak (fun y _ => ⟨fun h e u hu => h u hu e, fun h u hu e => h e u hu⟩) w⟩
  | false =>
    have hC : ¬ ∀ u, u < n → getK (ns, nx) (.V u z) = 0 := fun h => by have := hb.2 h; cases this
    obtain ⟨s', hs, hp⟩ := loopO_inv (body := fun st : LS => F_spec_l20Vars_b5 n (false, j) v z st.1 st.2.1 st.2.2.1 st.2.2.2.1 st.2.2.2.2) (s0 := (ch, bd, ns, nx, 0)) (PO := fun s => ∃ j', s = (ch, bd, ns, nx, j')) (fun j s => s = (ch, bd, ns, nx, 0)) 0 (by omega) rfl (by
      rintro j s hj rfl
      refine .inl ⟨(ch, bd, ns, nx, 0), ?_, 0, rfl⟩
      simp only [F_spec_l20Vars_b5]
      by_cases e : (0 : Int) < (n : Int)
      · rw [if_pos e, if_neg (by simp)]
      · rw [if_neg e])
    obtain ⟨j', rfl⟩ := hp
    exact ⟨ns, nx, ch, bd, j', hs, .skip w fun h => absurd h hC⟩
theorem vars_b6 (w : Wf n v (ns, nx)) (hn : n ≤ 10) (hv : v ≤ 4) :
    ∃ ns' nx' ch' bd' j', loopO (fun st : LS => F_spec_l20Vars_b6 v n st.1 st.2.1 st.2.2.1 st.2.2.2.1 st.2.2.2.2) fuel (ch, bd, ns, nx, 0) = some (ch', bd', ns', nx', j') ∧
      Op n v (fun y => ∀ z, z < v → Q2 n z y) (ns, nx) ch bd (ns', nx') ch' bd' := by
  refine loop_op (fun z y => Q2 n z y) v (by omega) w (fun z ns1 nx1 ch1 bd1 hz hl w1 => ?_) (fun ns1 nx1 ch1 bd1 => ⟨v, by simp [F_spec_l20Vars_b6]⟩)
  cases bd1 with
  | true => exact .inr ⟨rfl, z, by unfold F_spec_l20Vars_b6; rw [if_pos (cl hz), if_pos rfl]⟩
  | false =>
    refine .inl ?_
    unfold F_spec_l20Vars_b6
    rw [if_pos (cl hz), if_neg (by simp)]
    obtain ⟨b, j', h1, hb⟩ := vars_b4 w1 hn hz
    rw [h1]
    simp only [Option.bind_some]
    obtain ⟨ns2, nx2, ch2, bd2, j2, h2, o2⟩ := vars_b5 (ch := ch1) (bd := false) (j := j') w1 hn hz hb
    rw [h2]
    exact ⟨ns2, nx2, ch2, bd2, by simp only [Option.bind_some]; rw [wi_succ z (by omega)], o2⟩
theorem op_vars (w : Wf n v (ns, nx)) (hn : n ≤ 10) (hv : v ≤ 4) :
    ∃ ns' nx' ch' bd', F_spec_l20Vars v n ns nx ch bd = some (ns', nx', ch', bd') ∧ Op n v (fun y => (∀ z, z < v → ∀ u, u < n → Q1 n z u y) ∧ ∀ z, z < v → Q2 n z y) (ns, nx) ch bd (ns', nx') ch' bd' := by
  unfold F_spec_l20Vars
  obtain ⟨ns2, nx2, ch2, bd2, j2, h2, o2⟩ := vars_b3 (ch := ch) (bd := bd) w hn hv
  rw [h2]
  simp only [Option.bind_some]
  obtain ⟨ns3, nx3, ch3, bd3, j3, h3, o3⟩ := vars_b6 (ch := ch2) (bd := bd2) o2.wf hn hv
  rw [h3]
  exact ⟨ns3, nx3, ch3, bd3, rfl, o2.comp o3⟩
end
end Go.Proofs.Ytpfibofoeblapaa
