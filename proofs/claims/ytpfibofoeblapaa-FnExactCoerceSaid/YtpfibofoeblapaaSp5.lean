/- Sharpening, as the reference does it: rules 7 and 8. -/
import Derived.Test.YtpfibofoeblapaaSp4
set_option linter.unusedVariables false
set_option linter.unusedSimpArgs false
namespace Go.Proofs.Ytpfibofoeblapaa
open Go
section
variable {n v : Nat} {ns : List NodeD} {nx : List Int} {ch bd : Bool} {to : Int} {u x z : Nat} {r : Int}
theorem may_bound {q : SD} {w : Nat} : ∀ m, may n w q m ≤ 2 * m
  | 0 => Nat.le_refl _
  | m + 1 => by
    have := may_bound (q := q) (w := w) m
    simp only [may]
    split
    · split <;> omega
    · omega
theorem must_bound {q : SD} {w : Nat} : ∀ m, must n w q m ≤ m
  | 0 => Nat.le_refl _
  | m + 1 => by
    have := must_bound (q := q) (w := w) m
    simp only [must]
    split <;> omega
theorem shared_b1 (w : Wf n v (ns, nx)) (hn : n ≤ 10) (hx : x < n) :
    ∃ j', loopO (fun st : Int × Int × Int => F_spec_l20Shared_b1 n ns nx x st.1 st.2.1 st.2.2) fuel (0, 0, 0) = some ((may n x (ns, nx) n : Int), (must n x (ns, nx) n : Int), j') := by
  obtain ⟨⟨a, b, j'⟩, hs, hp⟩ := loopO_inv (body := fun st : Int × Int × Int => F_spec_l20Shared_b1 n ns nx x st.1 st.2.1 st.2.2) (s0 := (0, 0, 0)) (PO := fun s => s.1 = (may n x (ns, nx) n : Int) ∧ s.2.1 = (must n x (ns, nx) n : Int))
    (fun j s => s.2.2 = (j : Int) ∧ s.1 = (may n x (ns, nx) j : Int) ∧ s.2.1 = (must n x (ns, nx) j : Int)) n (by omega) ⟨rfl, rfl, rfl⟩ (by
      rintro j ⟨a, b, j1⟩ hj ⟨h1, h2, h3⟩
      simp only at h1 h2 h3
      subst h1 h2 h3
      unfold F_spec_l20Shared_b1
      simp only [Int.toNat_natCast]
      by_cases e : j = n
      · subst e
        exact .inl ⟨_, by rw [if_neg (by omega)], rfl, rfl⟩
      · have hlt : j < n := by omega
        refine .inr ⟨hlt, ?_⟩
        have b1 := may_bound (n := n) (q := (ns, nx)) (w := x) j
        have b2 := must_bound (n := n) (q := (ns, nx)) (w := x) j
        rw [if_pos (cl hlt), s_nextOf w hn hlt hx]
        simp only [Option.bind_some, f_bit]
        have w2 : ∀ k : Nat, k ≤ 100 → wi (wi ((k : Int) + 1) + 1) = ((k + 2 : Nat) : Int) := fun k hk => by rw [wi_succ k (by omega), wi_succ (k + 1) (by omega)]
        have w0 : ∀ k : Nat, k ≤ 100 → wi ((k : Int) + 0) = ((k : Nat) : Int) := fun k hk => by rw [Int.add_zero, wi_nat k (by omega)]
        by_cases hX : getK (ns, nx) (.X (j * n + x)) = 0
        · rw [if_pos hX]
          simp only [hX, decide_true, Bool.not_true, Bool.false_eq_true, if_false]
          refine ⟨_, by rw [wi_succ j (by omega)], rfl, ?_, ?_⟩
          · simp [may, hX, w0 _ (show may n x (ns, nx) j ≤ 100 by omega)]
            have := w0 _ (show may n x (ns, nx) j ≤ 100 by omega)
            simp only [Int.add_zero] at this
            rw [this, this]
          · simp [must, hX]
            have := w0 _ (show must n x (ns, nx) j ≤ 100 by omega)
            simpa using this
        · rw [if_neg hX, grd_t ⟨c0 _, cl hlt⟩]
          have hm2 : wi ((must n x (ns, nx) j : Int) + (if decide (getK (ns, nx) (.X (j * n + x)) = 2) = true then 1 else 0)) = ((must n x (ns, nx) (j + 1) : Nat) : Int) := by
            by_cases h2 : getK (ns, nx) (.X (j * n + x)) = 2
            · simp only [h2, decide_true, if_true, must]; exact wi_succ _ (by omega)
            · simp only [h2, decide_false, Bool.false_eq_true, if_false, must]; exact w0 _ (by omega)
          refine ⟨_, by rw [wi_succ j (by omega)], rfl, ?_, hm2⟩
          simp only [hX, decide_false, Bool.not_false, if_true]
          have hM : getK (ns, nx) (.M j) = (ns.getD j dN).2.2.2 := rfl
          by_cases h1 : (ns.getD j dN).2.2.2 = 1
          · simp only [h1, decide_true, if_true, may, hM, ne_eq, hX, not_false_eq_true]
            exact w2 _ (by omega)
          · simp only [h1, decide_false, Bool.false_eq_true, if_false, may, hM, ne_eq, hX, not_false_eq_true, if_true]
            rw [wi_succ _ (by omega)]
            exact w0 _ (by omega))
  obtain ⟨h1, h2⟩ := hp
  simp only at h1 h2
  subst h1 h2
  exact ⟨j', hs⟩
theorem set_S {q1 : SD} {ch1 bd1 : Bool} (h : setQ (ns, nx) (.S x) to ch bd = (q1, ch1, bd1)) :
    ns.set x ((ns.getD x dN).1, (ns.getD x dN).2.1, (vl (ns.getD x dN).2.2.1 to ch bd).1, (ns.getD x dN).2.2.2) = q1.1 ∧ nx = q1.2 ∧ (vl (ns.getD x dN).2.2.1 to ch bd).2.1 = ch1 ∧ (vl (ns.getD x dN).2.2.1 to ch bd).2.2 = bd1 := by
  rw [setQ_vl] at h
  have h1 := congrArg Prod.fst h
  have h2 := congrArg Prod.snd h
  exact ⟨congrArg Prod.fst h1, congrArg Prod.snd h1, congrArg Prod.fst h2, congrArg Prod.snd h2⟩
theorem shared_b2 (w : Wf n v (ns, nx)) (hn : n ≤ 10) :
    ∃ ns' nx' ch' bd' j', loopO (fun st : LS => F_spec_l20Shared_b2 n v st.1 st.2.1 st.2.2.1 st.2.2.2.1 st.2.2.2.2) fuel (ch, bd, ns, nx, 0) = some (ch', bd', ns', nx', j') ∧
      Op n v (fun y => ∀ x, x < n → Q7 n x y) (ns, nx) ch bd (ns', nx') ch' bd' := by
  refine loop_op (fun x y => Q7 n x y) n (by omega) w (fun x ns1 nx1 ch1 bd1 hx hl w1 => ?_) (fun ns1 nx1 ch1 bd1 => ⟨n, by simp [F_spec_l20Shared_b2]⟩)
  cases bd1 with
  | true => exact .inr ⟨rfl, x, by unfold F_spec_l20Shared_b2; rw [if_pos (cl hx), if_pos rfl]⟩
  | false =>
    refine .inl ?_
    unfold F_spec_l20Shared_b2
    simp only [Int.toNat_natCast]
    obtain ⟨j', hb⟩ := shared_b1 w1 hn hx
    rw [if_pos (cl hx), if_neg (by simp), hb]
    simp only [Option.bind_some]
    have hmay : ∀ y, Le n v (ns1, nx1) y → may n x y n ≤ may n x (ns1, nx1) n := fun y hl => may_le hl hx n (Nat.le_refl _)
    have hmust : ∀ y, Le n v (ns1, nx1) y → must n x (ns1, nx1) n ≤ must n x y n := fun y hl => must_le hl hx n (Nat.le_refl _)
    -- the first half
    by_cases hA : (may n x (ns1, nx1) n : Int) < 2
    · rw [if_pos hA, grd_t ⟨c0 _, cl hx⟩, f_value _ _ _ _ _ _ _ _ (by omega)]
      simp only [Option.bind_some]
      have o1 := Op.set (n := n) (v := v) (k := .S x) (to := 0) (ch := ch1) (bd := false) (ρ := fun y => may n x y n < 2 → getK y (.S x) = 0) w1 hx (.inl rfl) (by simp) (fun e _ => e) fun y _ h hl => h (by have := hmay y hl; omega)
      have hq : ∃ q2 ch2 bd2, setQ (ns1, nx1) (.S x) 0 ch1 false = (q2, ch2, bd2) := ⟨_, _, _, rfl⟩
      obtain ⟨⟨ns2, nx2⟩, ch2, bd2, hq⟩ := hq
      rw [hq] at o1
      obtain ⟨e1, e2, e3, e4⟩ := set_S hq
      simp only at e1 e2
      subst e2
      rw [e1, e3, e4]
      have w2 : Wf n v (ns2, nx1) := o1.wf
      by_cases hB : (must n x (ns1, nx1) n : Int) > 1
      · rw [if_pos hB]
        by_cases hM : (ns2.getD x dN).2.2.2 = 0
        · rw [if_pos hM, f_value _ _ _ _ _ _ _ _ (by omega)]
          simp only [Option.bind_some]
          have o2 := Op.set (n := n) (v := v) (k := .S x) (to := 2) (ch := ch2) (bd := bd2) (ρ := fun y => 2 ≤ must n x y n → getK y (.M x) = 0 → getK y (.S x) = 2) w2 hx (.inr rfl) (by simp) (fun e _ _ => e) fun y _ h hl => h (by have := hmust y (o1.le.trans hl); omega) (hl.def (k := .M x) hx hM (by omega))
          have hq2 : ∃ q2 ch2' bd2', setQ (ns2, nx1) (.S x) 2 ch2 bd2 = (q2, ch2', bd2') := ⟨_, _, _, rfl⟩
          obtain ⟨⟨ns3, nx3⟩, ch3, bd3, hq2⟩ := hq2
          rw [hq2] at o2
          obtain ⟨f1, f2, f3, f4⟩ := set_S hq2
          simp only at f1 f2
          subst f2
          rw [f1, f3, f4]
          exact ⟨ns3, nx1, ch3, bd3, by rw [wi_succ x (by omega)], o1.comp o2⟩
        · rw [if_neg hM]
          exact ⟨ns2, nx1, ch2, bd2, by rw [wi_succ x (by omega)], o1.stay fun e _ h => by
            have h' : (ns1.getD x dN).2.2.2 = 0 := h
            have : ns2 = ns1 := congrArg Prod.fst e
            rw [this] at hM; exact absurd h' hM⟩
      · rw [if_neg hB]
        exact ⟨ns2, nx1, ch2, bd2, by rw [wi_succ x (by omega)], o1.stay fun e h _ => by omega⟩
    · rw [if_neg hA]
      have o1 : Op n v (fun y => may n x y n < 2 → getK y (.S x) = 0) (ns1, nx1) ch1 false (ns1, nx1) ch1 false := .skip w1 fun h => by omega
      by_cases hB : (must n x (ns1, nx1) n : Int) > 1
      · rw [if_pos hB, grd_t ⟨c0 _, cl hx⟩]
        by_cases hM : (ns1.getD x dN).2.2.2 = 0
        · rw [if_pos hM, f_value _ _ _ _ _ _ _ _ (by omega)]
          simp only [Option.bind_some]
          have o2 := Op.set (n := n) (v := v) (k := .S x) (to := 2) (ch := ch1) (bd := false) (ρ := fun y => 2 ≤ must n x y n → getK y (.M x) = 0 → getK y (.S x) = 2) w1 hx (.inr rfl) (by simp) (fun e _ _ => e) fun y _ h hl => h (by have := hmust y hl; omega) (hl.def (k := .M x) hx hM (by omega))
          have hq2 : ∃ q2 ch2' bd2', setQ (ns1, nx1) (.S x) 2 ch1 false = (q2, ch2', bd2') := ⟨_, _, _, rfl⟩
          obtain ⟨⟨ns3, nx3⟩, ch3, bd3, hq2⟩ := hq2
          rw [hq2] at o2
          obtain ⟨f1, f2, f3, f4⟩ := set_S hq2
          simp only at f1 f2
          subst f2
          rw [f1, f3, f4]
          exact ⟨ns3, nx1, ch3, bd3, by rw [wi_succ x (by omega)], o1.comp o2⟩
        · rw [if_neg hM]
          exact ⟨ns1, nx1, ch1, false, by rw [wi_succ x (by omega)], o1.stay fun e _ h => absurd h hM⟩
      · rw [if_neg hB]
        exact ⟨ns1, nx1, ch1, false, by rw [wi_succ x (by omega)], o1.stay fun e h _ => by omega⟩
theorem s_positions {l : List Int} (hl : l.length ≤ 1000000000) {t : Int} : ∃ out, F_spec_Positions l t = some out ∧ out.length = cntN (fun k => l.getD k 0 = t) l.length := by
  unfold F_spec_Positions
  obtain ⟨⟨out, j1⟩, hs, hp⟩ := loopO_inv (body := fun st : List Int × Int => F_spec_Positions_b1 l t st.1 st.2) (s0 := ([], 0)) (PO := fun s => s.1.length = cntN (fun k => l.getD k 0 = t) l.length)
    (fun j s => s.2 = (j : Int) ∧ s.1.length = cntN (fun k => l.getD k 0 = t) j) l.length (by omega) ⟨rfl, rfl⟩ (by
      rintro j ⟨out, j1⟩ hj ⟨h1, h2⟩
      simp only at h1 h2
      subst h1
      unfold F_spec_Positions_b1
      simp only [Int.toNat_natCast]
      by_cases e : j = l.length
      · exact .inl ⟨_, by rw [if_neg (by omega)], by rw [← e]; exact h2⟩
      · have hlt : j < l.length := by omega
        refine .inr ⟨hlt, ?_⟩
        have hc := cntN_le (p := fun k => l.getD k 0 = t) j
        rw [if_pos (cl hlt), grd_t ⟨c0 _, cl hlt⟩]
        by_cases ht : l.getD j 0 = t
        · rw [if_pos ht, grd_t (by unfold lim; omega)]
          refine ⟨_, by rw [wi_succ j (by omega)], rfl, ?_⟩
          simp only [cntN, List.length_append, List.length_singleton]
          rw [if_pos ht, h2]
        · rw [if_neg ht]
          refine ⟨_, by rw [wi_succ j (by omega)], rfl, ?_⟩
          simp only [cntN]
          rw [if_neg ht, h2]; rfl)
  rw [hs]
  exact ⟨out, rfl, hp⟩
theorem shared_b3 {chx bdx : Bool} {jx : Int} (w : Wf n v (ns, nx)) (hn : n ≤ 10) (hv : v ≤ 4) :
    ∃ bd' j', loopO (fun st : Bool × Int => F_spec_l20Shared_b3 n (chx, bdx, ns, nx, jx) v st.1 st.2) fuel (bd, 0) = some (bd', j') ∧ Op n v (fun y => ∀ x, x < n → Q8 v x y) (ns, nx) ch bd (ns, nx) ch bd' := by
  obtain ⟨⟨b, j1⟩, hs, hp⟩ := loopO_inv (body := fun st : Bool × Int => F_spec_l20Shared_b3 n (chx, bdx, ns, nx, jx) v st.1 st.2) (s0 := (bd, 0)) (PO := fun s => Op n v (fun y => ∀ x, x < n → Q8 v x y) (ns, nx) ch bd (ns, nx) ch s.1)
    (fun j s => s.2 = (j : Int) ∧ Op n v (fun y => ∀ x, x < j → Q8 v x y) (ns, nx) ch bd (ns, nx) ch s.1) n (by omega) ⟨rfl, .start w⟩ (by
      rintro j ⟨b, j1⟩ hj ⟨h1, h2⟩
      simp only at h1 h2
      subst h1
      unfold F_spec_l20Shared_b3
      simp only [Int.toNat_natCast]
      by_cases e : j = n
      · subst e
        exact .inl ⟨_, by rw [if_neg (by omega)], h2⟩
      · have hlt : j < n := by omega
        refine .inr ⟨hlt, ?_⟩
        rw [if_pos (cl hlt)]
        cases b with
        | true =>
          rw [if_pos rfl]
          exact ⟨_, by rw [wi_succ j (by omega)], rfl, (h2.comp (Op.was w)).next w⟩
        | false =>
          rw [if_neg (by simp), grd_t ⟨c0 _, cl hlt⟩]
          have hr2 : (ns.getD j dN).2.1.length = v := w.row2 j hlt
          obtain ⟨out, ho, hc⟩ := s_positions (l := (ns.getD j dN).2.1) (t := 0) (by omega)
          rw [ho]
          simp only [Option.bind_some]
          refine ⟨_, by rw [wi_succ j (by omega)], rfl, ?_⟩
          rw [hr2] at hc
          by_cases hall : (out.length : Int) = (v : Int)
          · rw [decide_eq_true hall]
            refine (h2.comp (Op.wrong w fun y _ hy hl => ?_)).next w
            obtain ⟨z, hz, hne⟩ := hy
            have := cntN_full (p := fun k => (ns.getD j dN).2.1.getD k 0 = 0) v (by omega) z hz
            exact hne (hl.def (k := .R j z) ⟨hlt, hz⟩ this (by omega))
          · rw [decide_eq_false hall]
            refine (h2.comp (.skip w ?_)).next w
            refine Classical.byContradiction fun hno => hall ?_
            have : cntN (fun k => (ns.getD j dN).2.1.getD k 0 = 0) v = v := cntN_all v fun z hz => Classical.byContradiction fun hne => hno ⟨z, hz, hne⟩
            omega)
  exact ⟨b, j1, hs, hp⟩
theorem op_shared (w : Wf n v (ns, nx)) (hn : n ≤ 10) (hv : v ≤ 4) :
    ∃ ns' nx' ch' bd', F_spec_l20Shared v n ns nx ch bd = some (ns', nx', ch', bd') ∧ Op n v (fun y => (∀ x, x < n → Q7 n x y) ∧ ∀ x, x < n → Q8 v x y) (ns, nx) ch bd (ns', nx') ch' bd' := by
  unfold F_spec_l20Shared
  obtain ⟨ns2, nx2, ch2, bd2, j2, h2, o2⟩ := shared_b2 (ch := ch) (bd := bd) w hn
  rw [h2]
  simp only [Option.bind_some]
  obtain ⟨bd3, j3, h3, o3⟩ := shared_b3 (ch := ch2) (bd := bd2) (chx := ch2) (bdx := bd2) (jx := j2) o2.wf hn hv
  rw [h3]
  exact ⟨ns2, nx2, ch2, bd3, rfl, o2.comp o3⟩
/-- All rules, once. -/
theorem op_all (w : Wf n v (ns, nx)) (hn : n ≤ 10) (hv : v ≤ 4) :
    ∃ ns' nx' ch' bd', ((F_spec_l20Vars v n ns nx ch bd).bind fun y36 => (F_spec_l20Single v n y36.1 y36.2.1 y36.2.2.1 y36.2.2.2).bind fun y40 => (F_spec_l20Along v n y40.1 y40.2.1 y40.2.2.1 y40.2.2.2).bind fun y44 => (F_spec_l20Acyclic v n y44.1 y44.2.1 y44.2.2.1 y44.2.2.2).bind fun y48 => (F_spec_l20Before v n y48.1 y48.2.1 y48.2.2.1 y48.2.2.2).bind fun y52 => (F_spec_l20Paths v n y52.1 y52.2.1 y52.2.2.1 y52.2.2.2).bind fun y56 => F_spec_l20Shared v n y56.1 y56.2.1 y56.2.2.1 y56.2.2.2) = some (ns', nx', ch', bd') ∧
      Op n v (Sharp n v) (ns, nx) ch bd (ns', nx') ch' bd' := by
  obtain ⟨ns1, nx1, ch1, bd1, h1, o1⟩ := op_vars (ch := ch) (bd := bd) w hn hv
  obtain ⟨ns2, nx2, ch2, bd2, h2, o2⟩ := op_single (ch := ch1) (bd := bd1) o1.wf hn
  obtain ⟨ns3, nx3, ch3, bd3, h3, o3⟩ := op_along (ch := ch2) (bd := bd2) o2.wf hn hv
  obtain ⟨ns4, nx4, ch4, bd4, h4, o4⟩ := op_acyclic (ch := ch3) (bd := bd3) o3.wf hn hv
  obtain ⟨ns5, nx5, ch5, bd5, h5, o5⟩ := op_before (ch := ch4) (bd := bd4) o4.wf hn hv
  obtain ⟨ns6, nx6, ch6, bd6, h6, o6⟩ := op_paths (ch := ch5) (bd := bd5) o5.wf hn hv
  obtain ⟨ns7, nx7, ch7, bd7, h7, o7⟩ := op_shared (ch := ch6) (bd := bd6) o6.wf hn hv
  rw [h1]; simp only [Option.bind_some]
  rw [h2]; simp only [Option.bind_some]
  rw [h3]; simp only [Option.bind_some]
  rw [h4]; simp only [Option.bind_some]
  rw [h5]; simp only [Option.bind_some]
  rw [h6]; simp only [Option.bind_some]
  rw [h7]
  refine ⟨ns7, nx7, ch7, bd7, rfl, (o1.comp (o2.comp (o3.comp (o4.comp (o5.comp (o6.comp o7)))))).weak (fun y _ => ?_) w⟩
  constructor
  · rintro ⟨⟨a1, a2⟩, b, c, ⟨d1, d2⟩, e, f, g1, g2⟩
    exact ⟨fun z hz => ⟨a2 z hz, fun u hu => ⟨a1 z hz u hu, ⟨e u hu z hz, fun x hx => f z hz x hx u hu⟩, fun x hx => c u hu x hx z hz⟩⟩, fun u hu => ⟨⟨d1 u hu, fun z hz x hx => d2 z hz u hu x hx⟩, g1 u hu, g2 u hu, fun x hx => b u hu x hx⟩⟩
  · rintro ⟨h, k⟩
    exact ⟨⟨fun z hz u hu => ((h z hz).2 u hu).1, fun z hz => (h z hz).1⟩, fun u hu x hx => (k u hu).2.2.2 x hx, fun u hu x hx z hz => ((h z hz).2 u hu).2.2 x hx, ⟨fun u hu => (k u hu).1.1, fun z hz u hu x hx => (k u hu).1.2 z hz x hx⟩, fun x hx z hz => ((h z hz).2 x hx).2.1.1, fun z hz u hu x hx => ((h z hz).2 x hx).2.1.2 u hu, fun x hx => (k x hx).2.1, fun x hx => (k x hx).2.2.1⟩
end
end Go.Proofs.Ytpfibofoeblapaa
