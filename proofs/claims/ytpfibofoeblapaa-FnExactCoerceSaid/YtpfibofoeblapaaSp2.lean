/- Sharpening, as the reference does it: rules 3 to 5. -/
import Derived.Test.YtpfibofoeblapaaSp
set_option linter.unusedVariables false
set_option linter.unusedSimpArgs false
namespace Go.Proofs.Ytpfibofoeblapaa
open Go
section
variable {n v : Nat} {ns : List NodeD} {nx : List Int} {ch bd : Bool} {to : Int} {u x z : Nat} {r : Int}
theorem single_b1 (w : Wf n v (ns, nx)) (hn : n ≤ 10) (hu : u < n) (hx : x < n) (hC : getK (ns, nx) (.X (u * n + x)) = 2) :
    ∃ ns' nx' ch' bd' j', loopO (fun st : LS => F_spec_l20Single_b1 n x v u st.1 st.2.1 st.2.2.1 st.2.2.2.1 st.2.2.2.2) fuel (ch, bd, ns, nx, 0) = some (ch', bd', ns', nx', j') ∧
      Op n v (fun y => ∀ k, k < n → k ≠ x → getK y (.X (u * n + x)) = 2 → getK y (.X (u * n + k)) = 0) (ns, nx) ch bd (ns', nx') ch' bd' := by
  refine loop_op (fun k y => k ≠ x → getK y (.X (u * n + x)) = 2 → getK y (.X (u * n + k)) = 0) n (by omega) w (fun k ns1 nx1 ch1 bd1 hk hl w1 => .inl ?_) (fun ns1 nx1 ch1 bd1 => ⟨n, by simp [F_spec_l20Single_b1]⟩)
  by_cases e : k = x
  · refine ⟨ns1, nx1, ch1, bd1, ?_, .skip w1 fun h => absurd e h⟩
    unfold F_spec_l20Single_b1
    rw [if_pos (cl hk), if_pos (show (k : Int) = (x : Int) by omega), wi_succ k (by omega)]
  · unfold F_spec_l20Single_b1
    rw [if_pos (cl hk), if_neg (show ¬ (k : Int) = (x : Int) by omega)]
    obtain ⟨ns2, nx2, ch2, bd2, h2, o2⟩ := e_next (r := (v : Int)) (ch := ch1) (bd := bd1) (to := 0) (ρ := fun y => k ≠ x → getK y (.X (u * n + x)) = 2 → getK y (.X (u * n + k)) = 0) w1 hn hu hk (.inl rfl) (fun e _ _ => e) fun y _ h hl' => h e ((hl.trans hl').def (k := .X (u * n + x)) (idx_lt hu hx) hC (by omega))
    rw [h2]
    exact ⟨ns2, nx2, ch2, bd2, by simp only [Option.bind_some]; rw [wi_succ k (by omega)], o2⟩
theorem single_b2 (w : Wf n v (ns, nx)) (hn : n ≤ 10) (hu : u < n) (hx : x < n) (C : SD → Prop) (hC : ∀ y, Wf n v y → Le n v (ns, nx) y → C y) :
    ∃ ns' nx' ch' bd' j', loopO (fun st : LS => F_spec_l20Single_b2 n u v x st.1 st.2.1 st.2.2.1 st.2.2.2.1 st.2.2.2.2) fuel (ch, bd, ns, nx, 0) = some (ch', bd', ns', nx', j') ∧
      Op n v (fun y => ∀ k, k < n → k ≠ u → C y → getK y (.X (k * n + x)) = 0) (ns, nx) ch bd (ns', nx') ch' bd' := by
  refine loop_op (fun k y => k ≠ u → C y → getK y (.X (k * n + x)) = 0) n (by omega) w (fun k ns1 nx1 ch1 bd1 hk hl w1 => .inl ?_) (fun ns1 nx1 ch1 bd1 => ⟨n, by simp [F_spec_l20Single_b2]⟩)
  by_cases e : k = u
  · refine ⟨ns1, nx1, ch1, bd1, ?_, .skip w1 fun h => absurd e h⟩
    unfold F_spec_l20Single_b2
    rw [if_pos (cl hk), if_pos (show (k : Int) = (u : Int) by omega), wi_succ k (by omega)]
  · unfold F_spec_l20Single_b2
    rw [if_pos (cl hk), if_neg (show ¬ (k : Int) = (u : Int) by omega)]
    obtain ⟨ns2, nx2, ch2, bd2, h2, o2⟩ := e_next (r := (v : Int)) (ch := ch1) (bd := bd1) (to := 0) (ρ := fun y => k ≠ u → C y → getK y (.X (k * n + x)) = 0) w1 hn hk hx (.inl rfl) (fun e _ _ => e) fun y wy h hl' => h e (hC y wy (hl.trans hl'))
    rw [h2]
    exact ⟨ns2, nx2, ch2, bd2, by simp only [Option.bind_some]; rw [wi_succ k (by omega)], o2⟩
theorem single_b3 (w : Wf n v (ns, nx)) (hn : n ≤ 10) (hu : u < n) :
    ∃ ns' nx' ch' bd' j', loopO (fun st : LS => F_spec_l20Single_b3 n u v st.1 st.2.1 st.2.2.1 st.2.2.2.1 st.2.2.2.2) fuel (ch, bd, ns, nx, 0) = some (ch', bd', ns', nx', j') ∧
      Op n v (fun y => ∀ x, x < n → Q3 n u x y) (ns, nx) ch bd (ns', nx') ch' bd' := by
  refine loop_op (fun x y => Q3 n u x y) n (by omega) w (fun x ns1 nx1 ch1 bd1 hx hl w1 => ?_) (fun ns1 nx1 ch1 bd1 => ⟨n, by simp [F_spec_l20Single_b3]⟩)
  cases bd1 with
  | true => exact .inr ⟨rfl, x, by unfold F_spec_l20Single_b3; rw [if_pos (cl hx), if_pos rfl]⟩
  | false =>
    refine .inl ?_
    unfold F_spec_l20Single_b3
    simp only [Int.toNat_natCast]
    rw [if_pos (cl hx), if_neg (by simp), s_nextOf w1 hn hu hx]
    simp only [Option.bind_some]
    by_cases hX : getK (ns1, nx1) (.X (u * n + x)) = 2
    · rw [if_pos hX]
      have hP : ∀ q', Le n v (ns1, nx1) q' → getK q' (.X (u * n + x)) = 2 := fun q' hl => hl.def (k := .X (u * n + x)) (idx_lt hu hx) hX (by omega)
      obtain ⟨ns2, nx2, ch2, bd2, h2, o2⟩ := e_one (r := (v : Int)) (ch := ch1) (bd := false) (ρ := fun y => getK y (.X (u * n + x)) = 2 → getK y (.M x) = 0) w1 hx (fun e _ => e) fun y _ h hl => h (hP y hl)
      rw [h2]
      simp only [Option.bind_some]
      obtain ⟨ns3, nx3, ch3, bd3, j3, h3, o3⟩ := single_b1 (ch := ch2) (bd := bd2) o2.wf hn hu hx (hP _ o2.le)
      rw [h3]
      simp only [Option.bind_some]
      rw [grd_t ⟨c0 _, cl hx⟩]
      by_cases hS : (ns3.getD x dN).2.2.1 = 0
      · rw [if_pos hS]
        have hl3 := o2.le.trans o3.le
        have hPS : ∀ q', Le n v (ns3, nx3) q' → getK q' (.X (u * n + x)) = 2 ∧ getK q' (.S x) = 0 := fun q' hl => ⟨hP _ (hl3.trans hl), hl.def (k := .S x) hx hS (by omega)⟩
        obtain ⟨ns4, nx4, ch4, bd4, h4, o4⟩ := e_one (r := (v : Int)) (ch := ch3) (bd := bd3) (ρ := fun y => getK y (.X (u * n + x)) = 2 ∧ getK y (.S x) = 0 → getK y (.M u) = 0) o3.wf hu (fun e _ => e) fun y _ h hl => h (hPS y hl)
        rw [h4]
        simp only [Option.bind_some]
        obtain ⟨ns5, nx5, ch5, bd5, j5, h5, o5⟩ := single_b2 (ch := ch4) (bd := bd4) o4.wf hn hu hx (fun y => getK y (.X (u * n + x)) = 2 ∧ getK y (.S x) = 0) fun y _ hl => hPS y (o4.le.trans hl)
        rw [h5]
        simp only [Option.bind_some]
        refine ⟨ns5, nx5, ch5, bd5, by rw [wi_succ x (by omega)], (o2.comp (o3.comp (o4.comp o5))).weak (fun y _ => ?_) w1⟩
        exact ⟨fun ⟨a, b, c, d⟩ h => ⟨a h, fun k hk hne => b k hk hne h, fun hs => ⟨c ⟨h, hs⟩, fun k hk hne => d k hk hne ⟨h, hs⟩⟩⟩, fun h => ⟨fun e => (h e).1, fun k hk hne e => (h e).2.1 k hk hne, fun e => ((h e.1).2.2 e.2).1, fun k hk hne e => ((h e.1).2.2 e.2).2 k hk hne⟩⟩
      · rw [if_neg hS]
        have o4 : Op n v (fun y => getK y (.X (u * n + x)) = 2 → getK y (.S x) = 0 → getK y (.M u) = 0 ∧ ∀ k, k < n → k ≠ u → getK y (.X (k * n + x)) = 0) (ns3, nx3) ch3 bd3 (ns3, nx3) ch3 bd3 := .skip o3.wf fun _ h => absurd h hS
        refine ⟨ns3, nx3, ch3, bd3, by rw [wi_succ x (by omega)], (o2.comp (o3.comp o4)).weak (fun y _ => ?_) w1⟩
        exact ⟨fun ⟨a, b, c⟩ h => ⟨a h, fun k hk hne => b k hk hne h, c h⟩, fun h => ⟨fun e => (h e).1, fun k hk hne e => (h e).2.1 k hk hne, fun e => (h e).2.2⟩⟩
    · rw [if_neg hX]
      exact ⟨ns1, nx1, ch1, false, by rw [wi_succ x (by omega)], .skip w1 fun h => absurd h hX⟩
theorem op_single (w : Wf n v (ns, nx)) (hn : n ≤ 10) :
    ∃ ns' nx' ch' bd', F_spec_l20Single v n ns nx ch bd = some (ns', nx', ch', bd') ∧ Op n v (fun y => ∀ u, u < n → ∀ x, x < n → Q3 n u x y) (ns, nx) ch bd (ns', nx') ch' bd' := by
  unfold F_spec_l20Single
  obtain ⟨ns2, nx2, ch2, bd2, j2, h2, o2⟩ := loop_op (n := n) (v := v) (ch := ch) (bd := bd) (body := fun st : LS => F_spec_l20Single_b4 n v st.1 st.2.1 st.2.2.1 st.2.2.2.1 st.2.2.2.2) (fun u y => ∀ x, x < n → Q3 n u x y) n (by omega) w (fun u ns1 nx1 ch1 bd1 hu hl w1 => .inl (by
    unfold F_spec_l20Single_b4
    rw [if_pos (cl hu)]
    obtain ⟨ns2, nx2, ch2, bd2, j2, h2, o2⟩ := single_b3 (ch := ch1) (bd := bd1) w1 hn hu
    rw [h2]
    exact ⟨ns2, nx2, ch2, bd2, by simp only [Option.bind_some]; rw [wi_succ u (by omega)], o2⟩)) (fun ns1 nx1 ch1 bd1 => ⟨n, by simp [F_spec_l20Single_b4]⟩)
  rw [h2]
  exact ⟨ns2, nx2, ch2, bd2, rfl, o2⟩
/-! ### rule 4 -/
theorem four_sound {q y : SD} (wy : Wf n v y) (hu : u < n) (hx : x < n) (hz : z < v) (hl : Le n v q y) (h1 : getK q (.R u z) = 2) (h3 : getK q (.R x z) = 0) (h : Q4 n z u x y) : getK y (.X (u * n + x)) = 0 := by
  have a := hl.def (k := .R u z) ⟨hu, hz⟩ h1 (by omega)
  have c := hl.def (k := .R x z) ⟨hx, hz⟩ h3 (by omega)
  obtain ⟨h5, h6⟩ := h a
  have hr := wy.rng (.X (u * n + x)) (idx_lt hu hx)
  have : getK y (.X (u * n + x)) ≠ 2 := fun e => by have := h5 e; omega
  have : getK y (.X (u * n + x)) ≠ 1 := fun e => h6 ⟨e, c⟩
  omega
theorem along_b1 (w : Wf n v (ns, nx)) (hn : n ≤ 10) (hv : v ≤ 4) (hu : u < n) (hx : x < n) :
    ∃ ns' nx' ch' bd' j', loopO (fun st : LS => F_spec_l20Along_b1 v u n x st.1 st.2.1 st.2.2.1 st.2.2.2.1 st.2.2.2.2) fuel (ch, bd, ns, nx, 0) = some (ch', bd', ns', nx', j') ∧
      Op n v (fun y => ∀ z, z < v → Q4 n z u x y) (ns, nx) ch bd (ns', nx') ch' bd' := by
  refine loop_op (fun z y => Q4 n z u x y) v (by omega) w (fun z ns1 nx1 ch1 bd1 hz hl w1 => ?_) (fun ns1 nx1 ch1 bd1 => ⟨v, by simp [F_spec_l20Along_b1]⟩)
  cases bd1 with
  | true => exact .inr ⟨rfl, z, by unfold F_spec_l20Along_b1; rw [if_pos (cl hz), if_pos rfl]⟩
  | false =>
    refine .inl ?_
    unfold F_spec_l20Along_b1
    simp only [Int.toNat_natCast]
    rw [if_pos (cl hz), if_neg (by simp), grd_t ⟨c0 _, cl hu⟩, grd_t ⟨c0 _, len2 w1 hu hz⟩]
    by_cases hR : (ns1.getD u dN).2.1.getD z 0 = 2
    · rw [if_pos hR, s_nextOf w1 hn hu hx]
      simp only [Option.bind_some]
      by_cases h2 : getK (ns1, nx1) (.X (u * n + x)) = 2
      · rw [if_pos h2]
        obtain ⟨ns4, nx4, ch4, bd4, h4, o4⟩ := e_reach (r := (v : Int)) (ch := ch1) (bd := false) (ρ := Q4 n z u x) (to := 2) w1 hx hz (.inr rfl) (fun e _ => ⟨fun _ => e, fun h => by have := h.1; omega⟩) fun y _ h hl => (h (hl.def (k := .R u z) ⟨hu, hz⟩ hR (by omega))).1 (hl.def (k := .X (u * n + x)) (idx_lt hu hx) h2 (by omega))
        rw [h4]
        exact ⟨ns4, nx4, ch4, bd4, by simp only [Option.bind_some]; rw [wi_succ z (by omega)], o4⟩
      · rw [if_neg h2]
        by_cases h1 : getK (ns1, nx1) (.X (u * n + x)) = 1
        · rw [if_pos h1, grd_t ⟨c0 _, cl hx⟩, grd_t ⟨c0 _, len2 w1 hx hz⟩]
          by_cases h0 : (ns1.getD x dN).2.1.getD z 0 = 0
          · rw [if_pos h0]
            obtain ⟨ns4, nx4, ch4, bd4, h4, o4⟩ := e_next (r := (v : Int)) (ch := ch1) (bd := false) (ρ := Q4 n z u x) (to := 0) w1 hn hu hx (.inl rfl) (fun e => by omega) fun y wy h hl => four_sound wy hu hx hz hl hR h0 h
            rw [h4]
            exact ⟨ns4, nx4, ch4, bd4, by simp only [Option.bind_some]; rw [wi_succ z (by omega)], o4⟩
          · rw [if_neg h0]
            exact ⟨ns1, nx1, ch1, false, by rw [wi_succ z (by omega)], .skip w1 fun _ => ⟨fun e => absurd e h2, fun e => h0 e.2⟩⟩
        · rw [if_neg h1]
          exact ⟨ns1, nx1, ch1, false, by rw [wi_succ z (by omega)], .skip w1 fun _ => ⟨fun e => absurd e h2, fun e => h1 e.1⟩⟩
    · rw [if_neg hR]
      exact ⟨ns1, nx1, ch1, false, by rw [wi_succ z (by omega)], .skip w1 fun h => absurd h hR⟩
theorem op_along (w : Wf n v (ns, nx)) (hn : n ≤ 10) (hv : v ≤ 4) :
    ∃ ns' nx' ch' bd', F_spec_l20Along v n ns nx ch bd = some (ns', nx', ch', bd') ∧ Op n v (fun y => ∀ u, u < n → ∀ x, x < n → ∀ z, z < v → Q4 n z u x y) (ns, nx) ch bd (ns', nx') ch' bd' := by
  unfold F_spec_l20Along
  obtain ⟨ns2, nx2, ch2, bd2, j2, h2, o2⟩ := loop_op (n := n) (v := v) (ch := ch) (bd := bd) (body := fun st : LS => F_spec_l20Along_b3 n v st.1 st.2.1 st.2.2.1 st.2.2.2.1 st.2.2.2.2) (fun u y => ∀ x, x < n → ∀ z, z < v → Q4 n z u x y) n (by omega) w (fun u ns1 nx1 ch1 bd1 hu hl w1 => .inl (by
    unfold F_spec_l20Along_b3
    rw [if_pos (cl hu)]
    obtain ⟨ns2, nx2, ch2, bd2, j2, h2, o2⟩ := loop_op (n := n) (v := v) (ch := ch1) (bd := bd1) (body := fun st : LS => F_spec_l20Along_b2 n v u st.1 st.2.1 st.2.2.1 st.2.2.2.1 st.2.2.2.2) (fun x y => ∀ z, z < v → Q4 n z u x y) n (by omega) w1 (fun x ns1 nx1 ch1 bd1 hx hl w1 => .inl (by
      unfold F_spec_l20Along_b2
      rw [if_pos (cl hx)]
      obtain ⟨ns2, nx2, ch2, bd2, j2, h2, o2⟩ := along_b1 (ch := ch1) (bd := bd1) w1 hn hv hu hx
      rw [h2]
      exact ⟨ns2, nx2, ch2, bd2, by simp only [Option.bind_some]; rw [wi_succ x (by omega)], o2⟩)) (fun ns1 nx1 ch1 bd1 => ⟨n, by simp [F_spec_l20Along_b2]⟩)
    rw [h2]
    exact ⟨ns2, nx2, ch2, bd2, by simp only [Option.bind_some]; rw [wi_succ u (by omega)], o2⟩)) (fun ns1 nx1 ch1 bd1 => ⟨n, by simp [F_spec_l20Along_b3]⟩)
  rw [h2]
  exact ⟨ns2, nx2, ch2, bd2, rfl, o2⟩
/-! ### rule 5 -/
theorem acyclic_b1 (w : Wf n v (ns, nx)) (hn : n ≤ 10) :
    ∃ ns' nx' ch' bd' j', loopO (fun st : LS => F_spec_l20Acyclic_b1 n v st.1 st.2.1 st.2.2.1 st.2.2.2.1 st.2.2.2.2) fuel (ch, bd, ns, nx, 0) = some (ch', bd', ns', nx', j') ∧
      Op n v (fun y => ∀ u, u < n → Q5a n u y) (ns, nx) ch bd (ns', nx') ch' bd' := by
  refine loop_op (fun u y => Q5a n u y) n (by omega) w (fun u ns1 nx1 ch1 bd1 hu hl w1 => ?_) (fun ns1 nx1 ch1 bd1 => ⟨n, by simp [F_spec_l20Acyclic_b1]⟩)
  cases bd1 with
  | true => exact .inr ⟨rfl, u, by unfold F_spec_l20Acyclic_b1; rw [if_pos (cl hu), if_pos rfl]⟩
  | false =>
    refine .inl ?_
    unfold F_spec_l20Acyclic_b1
    simp only [Int.toNat_natCast]
    rw [if_pos (cl hu), if_neg (by simp), grd_t ⟨c0 _, cl hu⟩]
    by_cases hM : (ns1.getD u dN).2.2.2 = 0
    · rw [if_pos hM]
      obtain ⟨ns4, nx4, ch4, bd4, h4, o4⟩ := e_next (r := (v : Int)) (ch := ch1) (bd := false) (ρ := Q5a n u) (to := 0) w1 hn hu hu (.inl rfl) (fun e _ => e) fun y wy h hl => h (hl.def (k := .M u) hu hM (by omega))
      rw [h4]
      exact ⟨ns4, nx4, ch4, bd4, by simp only [Option.bind_some]; rw [wi_succ u (by omega)], o4⟩
    · rw [if_neg hM]
      exact ⟨ns1, nx1, ch1, false, by rw [wi_succ u (by omega)], .skip w1 fun h => absurd h hM⟩
theorem acyclic_b2 (w : Wf n v (ns, nx)) (hn : n ≤ 10) (hu : u < n) (hz : z < v) :
    ∃ ns' nx' ch' bd' j', loopO (fun st : LS => F_spec_l20Acyclic_b2 n u z v st.1 st.2.1 st.2.2.1 st.2.2.2.1 st.2.2.2.2) fuel (ch, bd, ns, nx, 0) = some (ch', bd', ns', nx', j') ∧
      Op n v (fun y => ∀ x, x < n → Q5b n z u x y) (ns, nx) ch bd (ns', nx') ch' bd' := by
  refine loop_op (fun x y => Q5b n z u x y) n (by omega) w (fun x ns1 nx1 ch1 bd1 hx hl w1 => ?_) (fun ns1 nx1 ch1 bd1 => ⟨n, by simp [F_spec_l20Acyclic_b2]⟩)
  cases bd1 with
  | true => exact .inr ⟨rfl, x, by unfold F_spec_l20Acyclic_b2; rw [if_pos (cl hx), if_pos rfl]⟩
  | false =>
    refine .inl ?_
    unfold F_spec_l20Acyclic_b2
    simp only [Int.toNat_natCast]
    rw [if_pos (cl hx), if_neg (by simp), grd_t ⟨c0 _, cl hu⟩, grd_t ⟨c0 _, len1 w1 hu hz⟩]
    by_cases hV : (ns1.getD u dN).1.getD z 0 = 2
    · rw [if_pos hV, grd_t ⟨c0 _, cl hx⟩, grd_t ⟨c0 _, len2 w1 hx hz⟩]
      by_cases hR : (ns1.getD x dN).2.1.getD z 0 = 2
      · rw [if_pos hR]
        obtain ⟨ns4, nx4, ch4, bd4, h4, o4⟩ := e_next (r := (v : Int)) (ch := ch1) (bd := false) (ρ := Q5b n z u x) (to := 0) w1 hn hx hu (.inl rfl) (fun e _ _ => e) fun y wy h hl => h (hl.def (k := .V u z) ⟨hu, hz⟩ hV (by omega)) (hl.def (k := .R x z) ⟨hx, hz⟩ hR (by omega))
        rw [h4]
        exact ⟨ns4, nx4, ch4, bd4, by simp only [Option.bind_some]; rw [wi_succ x (by omega)], o4⟩
      · rw [if_neg hR]
        exact ⟨ns1, nx1, ch1, false, by rw [wi_succ x (by omega)], .skip w1 fun _ h => absurd h hR⟩
    · rw [if_neg hV]
      exact ⟨ns1, nx1, ch1, false, by rw [wi_succ x (by omega)], .skip w1 fun h => absurd h hV⟩
theorem op_acyclic (w : Wf n v (ns, nx)) (hn : n ≤ 10) (hv : v ≤ 4) :
    ∃ ns' nx' ch' bd', F_spec_l20Acyclic v n ns nx ch bd = some (ns', nx', ch', bd') ∧ Op n v (fun y => (∀ u, u < n → Q5a n u y) ∧ ∀ z, z < v → ∀ u, u < n → ∀ x, x < n → Q5b n z u x y) (ns, nx) ch bd (ns', nx') ch' bd' := by
  unfold F_spec_l20Acyclic
  obtain ⟨ns3, nx3, ch3, bd3, j3, h3, o3⟩ := acyclic_b1 (ch := ch) (bd := bd) w hn
  rw [h3]
  simp only [Option.bind_some]
  obtain ⟨ns2, nx2, ch2, bd2, j2, h2, o2⟩ := loop_op (n := n) (v := v) (ch := ch3) (bd := bd3) (body := fun st : LS => F_spec_l20Acyclic_b4 v n st.1 st.2.1 st.2.2.1 st.2.2.2.1 st.2.2.2.2) (fun z y => ∀ u, u < n → ∀ x, x < n → Q5b n z u x y) v (by omega) o3.wf (fun z ns1 nx1 ch1 bd1 hz hl w1 => .inl (by
    unfold F_spec_l20Acyclic_b4
    rw [if_pos (cl hz)]
    obtain ⟨ns2, nx2, ch2, bd2, j2, h2, o2⟩ := loop_op (n := n) (v := v) (ch := ch1) (bd := bd1) (body := fun st : LS => F_spec_l20Acyclic_b3 n z v st.1 st.2.1 st.2.2.1 st.2.2.2.1 st.2.2.2.2) (fun u y => ∀ x, x < n → Q5b n z u x y) n (by omega) w1 (fun u ns1 nx1 ch1 bd1 hu hl w1 => .inl (by
      unfold F_spec_l20Acyclic_b3
      rw [if_pos (cl hu)]
      obtain ⟨ns2, nx2, ch2, bd2, j2, h2, o2⟩ := acyclic_b2 (ch := ch1) (bd := bd1) w1 hn hu hz
      rw [h2]
      exact ⟨ns2, nx2, ch2, bd2, by simp only [Option.bind_some]; rw [wi_succ u (by omega)], o2⟩)) (fun ns1 nx1 ch1 bd1 => ⟨n, by simp [F_spec_l20Acyclic_b3]⟩)
    rw [h2]
    exact ⟨ns2, nx2, ch2, bd2, by simp only [Option.bind_some]; rw [wi_succ z (by omega)], o2⟩)) (fun ns1 nx1 ch1 bd1 => ⟨v, by simp [F_spec_l20Acyclic_b4]⟩)
  rw [h2]
  exact ⟨ns2, nx2, ch2, bd2, rfl, o3.comp o2⟩
end
end Go.Proofs.Ytpfibofoeblapaa
