/- Sharpening, as the reference does it: rules 6 to 8. -/
import Derived.Test.YtpfibofoeblapaaSp2
set_option linter.unusedVariables false
set_option linter.unusedSimpArgs false
namespace Go.Proofs.Ytpfibofoeblapaa
open Go
/-! ### counting -/
def cntN (p : Nat → Prop) [DecidablePred p] : Nat → Nat
  | 0 => 0
  | k + 1 => cntN p k + if p k then 1 else 0
section
variable {p q : Nat → Prop} [DecidablePred p] [DecidablePred q]
theorem cntN_le : ∀ m, cntN p m ≤ m
  | 0 => Nat.le_refl _
  | m + 1 => by have := cntN_le m; simp only [cntN]; split <;> omega
theorem cntN_mono : ∀ m, (∀ b, b < m → p b → q b) → cntN p m ≤ cntN q m
  | 0, _ => Nat.le_refl _
  | m + 1, h => by
    have := cntN_mono m fun b hb => h b (by omega)
    simp only [cntN]
    by_cases hp : p m
    · rw [if_pos hp, if_pos (h m (by omega) hp)]; omega
    · rw [if_neg hp]; omega
theorem cntN_same : ∀ m, (∀ b, b < m → p b → q b) → cntN q m ≤ cntN p m → ∀ b, b < m → q b → p b
  | 0, _, _, b, hb, _ => absurd hb (by omega)
  | m + 1, h, hc, b, hb, hq => by
    have h1 := cntN_mono m fun b hb => h b (show b < m + 1 by omega)
    simp only [cntN] at hc
    by_cases e : b = m
    · subst e
      refine Classical.byContradiction fun hp => ?_
      rw [if_pos hq, if_neg hp] at hc; omega
    · refine cntN_same m (fun b hb => h b (by omega)) ?_ b (by omega) hq
      by_cases hp : p m
      · rw [if_pos hp, if_pos (h m (by omega) hp)] at hc; omega
      · rw [if_neg hp] at hc
        split at hc <;> omega
theorem cntN_full : ∀ m, cntN p m = m → ∀ b, b < m → p b
  | 0, _, b, hb => absurd hb (by omega)
  | m + 1, h, b, hb => by
    have h1 := cntN_le (p := p) m
    simp only [cntN] at h
    by_cases e : b = m
    · subst e
      refine Classical.byContradiction fun hp => ?_
      rw [if_neg hp] at h; omega
    · exact cntN_full m (by split at h <;> omega) b (by omega)
theorem cntN_all : ∀ m, (∀ b, b < m → p b) → cntN p m = m
  | 0, _ => rfl
  | m + 1, h => by
    simp only [cntN]
    rw [if_pos (h m (by omega)), cntN_all m fun b hb => h b (by omega)]
end
section
variable {n v : Nat} {ns : List NodeD} {nx : List Int} {ch bd : Bool} {to : Int} {u x z : Nat} {r : Int}
theorem Op.wk {ρ ρ' : SD → Prop} {q q' : SD} {ch bd ch' bd' : Bool} (h : Op n v ρ q ch bd q' ch' bd') (hq : ρ q → ρ' q) (hy : ∀ y, Wf n v y → ρ' y → Le n v q y → ρ y) : Op n v ρ' q ch bd q' ch' bd' :=
  ⟨h.wf, h.le, h.bad, h.chg, h.same, fun a b => hq (h.rho a b), h.prog, fun y wy hy' hl => h.snd y wy (hy y wy hy' hl) hl⟩
/-- Nothing is done, rightly if nothing has turned. -/
theorem Op.stay {ρ ρ2 : SD → Prop} {q q' : SD} {ch bd ch' bd' : Bool} (h : Op n v ρ q ch bd q' ch' bd') (h2 : q' = q → ρ2 q) : Op n v (fun y => ρ y ∧ ρ2 y) q ch bd q' ch' bd' :=
  h.ext h.wf Le.refl id id (fun _ => rfl) (fun e _ _ => h2 e) (fun e => .inl e) fun _ _ _ hl _ hb => ⟨hl, hb⟩
/-! ### rule 6, the sources -/
theorem srcs_len {q : SD} (m : Nat) : ((List.range m).filter fun u => decide (getK q (.X (u * n + x)) ≠ 0 ∧ getK q (.R u z) ≠ 0)).length ≤ m := by
  have := List.length_filter_le (fun u => decide (getK q (.X (u * n + x)) ≠ 0 ∧ getK q (.R u z) ≠ 0)) (List.range m)
  simpa using this
theorem s_sources (w : Wf n v (ns, nx)) (hn : n ≤ 10) (hx : x < n) (hz : z < v) : F_spec_l20Sources (r, (ns, nx), ch, bd) (z : Int) (x : Int) = some ((srcs n z x (ns, nx)).map fun (k : Nat) => (k : Int)) := by
  unfold F_spec_l20Sources
  obtain ⟨s', hs, hp⟩ := loopO_inv (body := fun st : List Int × Int => F_spec_l20Sources_b1 (r, (ns, nx), ch, bd) x z st.1 st.2) (s0 := ([], 0)) (PO := fun s => s.1 = (srcs n z x (ns, nx)).map fun (k : Nat) => (k : Int))
    (fun j s => s.2 = (j : Int) ∧ s.1 = ((List.range j).filter fun u => decide (getK (ns, nx) (.X (u * n + x)) ≠ 0 ∧ getK (ns, nx) (.R u z) ≠ 0)).map fun (k : Nat) => (k : Int)) n (by omega) ⟨rfl, rfl⟩ (by
      rintro j ⟨out, j1⟩ hj ⟨h1, h2⟩
      simp only at h1 h2
      subst h1
      have hl : ns.length = n := w.len
      unfold F_spec_l20Sources_b1
      simp only [hl, Int.toNat_natCast]
      by_cases e : j = n
      · subst e
        exact .inl ⟨_, by rw [if_neg (by omega)], h2⟩
      · have hlt : j < n := by omega
        refine .inr ⟨hlt, ?_⟩
        rw [if_pos (cl hlt), s_nextOf w hn hlt hx]
        simp only [Option.bind_some]
        have hlen : out.length ≤ j := by rw [h2, List.length_map]; exact srcs_len j
        by_cases hX : getK (ns, nx) (.X (j * n + x)) = 0
        · rw [if_pos hX]
          refine ⟨_, by rw [wi_succ j (by omega)], rfl, ?_⟩
          rw [List.range_succ, List.filter_append, List.map_append, ← h2]
          simp [hX]
        · rw [if_neg hX, grd_t ⟨c0 _, cl hlt⟩, grd_t ⟨c0 _, len2 w hlt hz⟩]
          by_cases hR : (ns.getD j dN).2.1.getD z 0 = 0
          · rw [if_pos hR]
            refine ⟨_, by rw [wi_succ j (by omega)], rfl, ?_⟩
            rw [List.range_succ, List.filter_append, List.map_append, ← h2]
            have hR' : getK (ns, nx) (.R j z) = 0 := hR
            simp [hR']
          · rw [if_neg hR, grd_t (by unfold lim; omega)]
            refine ⟨_, by rw [wi_succ j (by omega)], rfl, ?_⟩
            rw [List.range_succ, List.filter_append, List.map_append, ← h2]
            have hR' : ¬ getK (ns, nx) (.R j z) = 0 := hR
            simp [hX, hR'])
  rw [hs]
  simp [hp]
theorem srcs_one {q : SD} (h0 : srcs n z x q ≠ []) (h : ∀ k, k ∈ srcs n z x q → k = u) : srcs n z x q = [u] := by
  have hnd : (srcs n z x q).Nodup := List.Pairwise.filter _ List.nodup_range
  revert h0 h hnd
  generalize srcs n z x q = l
  intro h0 h hnd
  match l with
  | [] => exact absurd rfl h0
  | [a] => rw [h a (by simp)]
  | a :: b :: l =>
    have ha := h a (by simp)
    have hb := h b (by simp)
    simp [ha, hb] at hnd
theorem srcs_lt {q : SD} {k : Nat} (h : k ∈ srcs n z x q) : k < n := by
  simp only [srcs, List.mem_filter, List.mem_range] at h; exact h.1
theorem before_b1 (w : Wf n v (ns, nx)) (hn : n ≤ 10) (hv : v ≤ 4) (hx : x < n) :
    ∃ ns' nx' ch' bd' j', loopO (fun st : LS => F_spec_l20Before_b1 v x n st.1 st.2.1 st.2.2.1 st.2.2.2.1 st.2.2.2.2) fuel (ch, bd, ns, nx, 0) = some (ch', bd', ns', nx', j') ∧
      Op n v (fun y => ∀ z, z < v → Q6 n z x y) (ns, nx) ch bd (ns', nx') ch' bd' := by
  refine loop_op (fun z y => Q6 n z x y) v (by omega) w (fun z ns1 nx1 ch1 bd1 hz hl w1 => ?_) (fun ns1 nx1 ch1 bd1 => ⟨v, by simp [F_spec_l20Before_b1]⟩)
  cases bd1 with
  | true => exact .inr ⟨rfl, z, by unfold F_spec_l20Before_b1; rw [if_pos (cl hz), if_pos rfl]⟩
  | false =>
    refine .inl ?_
    unfold F_spec_l20Before_b1
    simp only [Int.toNat_natCast]
    rw [if_pos (cl hz), if_neg (by simp), grd_t ⟨c0 _, cl hx⟩, grd_t ⟨c0 _, len1 w1 hx hz⟩]
    by_cases hV : (ns1.getD x dN).1.getD z 0 = 0
    rotate_left
    · rw [if_neg hV]
      exact ⟨ns1, nx1, ch1, false, by rw [wi_succ z (by omega)], .skip w1 fun h => absurd h hV⟩
    rw [if_pos hV, grd_t ⟨c0 _, len2 w1 hx hz⟩]
    by_cases hR : (ns1.getD x dN).2.1.getD z 0 = 0
    · rw [if_pos hR]
      exact ⟨ns1, nx1, ch1, false, by rw [wi_succ z (by omega)], .skip w1 fun _ h => absurd hR h⟩
    rw [if_neg hR, s_sources w1 hn hx hz]
    simp only [Option.bind_some, List.length_map]
    have hV' : getK (ns1, nx1) (.V x z) = 0 := hV
    have hPV : ∀ q', Le n v (ns1, nx1) q' → getK q' (.V x z) = 0 := fun q' hl => hl.def (k := .V x z) ⟨hx, hz⟩ hV' (by omega)
    by_cases h0 : srcs n z x (ns1, nx1) = []
    · rw [h0, if_pos (show (([] : List Nat).length : Int) = 0 from rfl)]
      obtain ⟨ns4, nx4, ch4, bd4, h4, o4⟩ := e_reach (r := (v : Int)) (ch := ch1) (bd := false) (ρ := Q6 n z x) (to := 0) w1 hx hz (.inl rfl) (fun e _ h => absurd e h) fun y wy h hl => by
        refine Classical.byContradiction fun hne => ?_
        refine (h (hPV y hl) hne).1 (List.eq_nil_iff_forall_not_mem.2 fun k hk => ?_)
        have := srcs_le hl hz hx k hk
        rw [h0] at this; cases this
      rw [h4]
      exact ⟨ns4, nx4, ch4, bd4, by simp only [Option.bind_some]; rw [wi_succ z (by omega)], o4⟩
    have hlp : 0 < (srcs n z x (ns1, nx1)).length := List.length_pos_iff.2 h0
    rw [if_neg (by omega)]
    by_cases h1 : (srcs n z x (ns1, nx1)).length = 1
    rotate_left
    · rw [if_neg (by omega)]
      exact ⟨ns1, nx1, ch1, false, by rw [wi_succ z (by omega)], .skip w1 fun _ _ => ⟨h0, fun k hk => by rw [hk] at h1; simp at h1⟩⟩
    obtain ⟨u, hu'⟩ := List.length_eq_one_iff.1 h1
    have hu : u < n := srcs_lt (n := n) (z := z) (x := x) (q := (ns1, nx1)) (by rw [hu']; simp)
    rw [hu']
    simp only [List.length_singleton, List.map_cons, List.map_nil]
    have e0 : ([(u : Int)] : List Int).getD (0 : Int).toNat 0 = (u : Int) := rfl
    rw [if_pos (show ((1 : Nat) : Int) = 1 from rfl), grd_t (show (0 : Int) < ((1 : Nat) : Int) by omega), e0]
    simp only [Int.toNat_natCast]
    rw [grd_t ⟨c0 _, cl hu⟩]
    by_cases hM : (ns1.getD u dN).2.2.2 = 0
    rotate_left
    · rw [if_neg hM]
      exact ⟨ns1, nx1, ch1, false, by rw [wi_succ z (by omega)], .skip w1 fun _ _ => ⟨h0, fun k hk e => by rw [hu'] at hk; simp at hk; subst hk; exact absurd e hM⟩⟩
    rw [if_pos hM]
    by_cases hMx : (ns1.getD x dN).2.2.2 = 0
    rotate_left
    · rw [if_neg hMx]
      exact ⟨ns1, nx1, ch1, false, by rw [wi_succ z (by omega)], .skip w1 fun _ _ => ⟨h0, fun k hk _ e => absurd e hMx⟩⟩
    rw [if_pos hMx]
    by_cases hR2 : (ns1.getD x dN).2.1.getD z 0 = 2
    rotate_left
    · rw [if_neg hR2]
      exact ⟨ns1, nx1, ch1, false, by rw [wi_succ z (by omega)], .skip w1 fun _ _ => ⟨h0, fun k hk _ _ e => absurd e hR2⟩⟩
    rw [if_pos hR2]
    let C : SD → Prop := fun y => getK y (.V x z) = 0 ∧ getK y (.R x z) = 2 ∧ getK y (.M u) = 0 ∧ getK y (.M x) = 0 ∧ ∀ k, k ∈ srcs n z x y → k = u
    have hC : ∀ y, Wf n v y → Le n v (ns1, nx1) y → C y := fun y _ hl => ⟨hPV y hl, hl.def (k := .R x z) ⟨hx, hz⟩ hR2 (by omega), hl.def (k := .M u) hu hM (by omega), hl.def (k := .M x) hx hMx (by omega), fun k hk => by
      have := srcs_le hl hz hx k hk
      rw [hu'] at this; simpa using this⟩
    obtain ⟨ns3, nx3, ch3, bd3, h3, o3⟩ := e_next (r := (v : Int)) (ch := ch1) (bd := false) (ρ := fun y => C y → getK y (.X (u * n + x)) = 2) (to := 2) w1 hn hu hx (.inr rfl) (fun e _ => e) fun y wy h hl => h (hC y wy hl)
    rw [h3]
    simp only [Option.bind_some]
    obtain ⟨ns4, nx4, ch4, bd4, h4, o4⟩ := e_reach (r := (v : Int)) (ch := ch3) (bd := bd3) (ρ := fun y => C y → getK y (.R u z) = 2) (to := 2) o3.wf hu hz (.inr rfl) (fun e _ => e) fun y wy h hl => h (hC y wy (o3.le.trans hl))
    rw [h4]
    refine ⟨ns4, nx4, ch4, bd4, by simp only [Option.bind_some]; rw [wi_succ z (by omega)], (o3.comp o4).wk (fun ⟨a, b⟩ _ _ => ⟨h0, fun k hk _ _ _ => ?_⟩) fun y wy h hl => ?_⟩
    · rw [hu'] at hk
      obtain rfl : u = k := by simpa using hk
      exact ⟨a (hC _ w1 Le.refl), b (hC _ w1 Le.refl)⟩
    · have key : C y → getK y (.X (u * n + x)) = 2 ∧ getK y (.R u z) = 2 := fun ⟨a, b, c, d, e⟩ => by
        obtain ⟨g1, g2⟩ := h a (by omega)
        exact g2 u (srcs_one g1 e) c d b
      exact ⟨fun c => (key c).1, fun c => (key c).2⟩
theorem op_before (w : Wf n v (ns, nx)) (hn : n ≤ 10) (hv : v ≤ 4) :
    ∃ ns' nx' ch' bd', F_spec_l20Before v n ns nx ch bd = some (ns', nx', ch', bd') ∧ Op n v (fun y => ∀ x, x < n → ∀ z, z < v → Q6 n z x y) (ns, nx) ch bd (ns', nx') ch' bd' := by
  unfold F_spec_l20Before
  obtain ⟨ns2, nx2, ch2, bd2, j2, h2, o2⟩ := loop_op (n := n) (v := v) (ch := ch) (bd := bd) (body := fun st : LS => F_spec_l20Before_b2 n v st.1 st.2.1 st.2.2.1 st.2.2.2.1 st.2.2.2.2) (fun x y => ∀ z, z < v → Q6 n z x y) n (by omega) w (fun x ns1 nx1 ch1 bd1 hx hl w1 => .inl (by
    unfold F_spec_l20Before_b2
    rw [if_pos (cl hx)]
    obtain ⟨ns2, nx2, ch2, bd2, j2, h2, o2⟩ := before_b1 (ch := ch1) (bd := bd1) w1 hn hv hx
    rw [h2]
    exact ⟨ns2, nx2, ch2, bd2, by simp only [Option.bind_some]; rw [wi_succ x (by omega)], o2⟩)) (fun ns1 nx1 ch1 bd1 => ⟨n, by simp [F_spec_l20Before_b2]⟩)
  rw [h2]
  exact ⟨ns2, nx2, ch2, bd2, rfl, o2⟩
end
end Go.Proofs.Ytpfibofoeblapaa
