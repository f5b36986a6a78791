/- Sharpening, as the program does it: rules 3, 6 and 7; a round. -/
import Derived.Test.YtpfibofoeblapaaIm2
set_option linter.unusedVariables false
set_option linter.unusedSimpArgs false
namespace Go.Proofs.Ytpfibofoeblapaa
open Go
section
variable {n v : Nat} {ns : List NodeD} {nx : List Int} {ch bd : Bool} {to : Int} {u x z : Nat} {r : Int}
theorem linked_b1 (w : Wf n v (ns, nx)) (hn : n ≤ 10) (hu : u < n) (hx : x < n) (hC : getK (ns, nx) (.X (u * n + x)) = 2) :
    ∃ ns' nx' ch' bd' j', loopO (fun st : LS => F_impl_sharpener_linked_b1 n x r u st.1 st.2.1 st.2.2.1 st.2.2.2.1 st.2.2.2.2) fuel (ch, bd, ns, nx, 0) = some (ch', bd', ns', nx', j') ∧
      Op n v (fun y => ∀ k, k < n → k ≠ x → getK y (.X (u * n + x)) = 2 → getK y (.X (u * n + k)) = 0) (ns, nx) ch bd (ns', nx') ch' bd' := by
  refine loop_op (fun k y => k ≠ x → getK y (.X (u * n + x)) = 2 → getK y (.X (u * n + k)) = 0) n (by omega) w (fun k ns1 nx1 ch1 bd1 hk hl w1 => .inl ?_) (fun ns1 nx1 ch1 bd1 => ⟨n, by simp [F_impl_sharpener_linked_b1]⟩)
  unfold F_impl_sharpener_linked_b1
  by_cases e : k = x
  · rw [if_pos (cl hk), if_pos (show (k : Int) = (x : Int) by omega)]
    exact ⟨ns1, nx1, ch1, bd1, by rw [wi_succ k (by omega)], .skip w1 fun h => absurd e h⟩
  · rw [if_pos (cl hk), if_neg (show ¬ (k : Int) = (x : Int) by omega), i_next w1 hn hu hk]
    simp only [Option.bind_some, Int.toNat_natCast]
    rw [grd_t ⟨c0 _, nx_lt w1 hu hk⟩, f_set]
    simp only [Option.bind_some]
    obtain ⟨nx4, ch4, bd4, e1, e2, e3, o4⟩ := i_X (ns := ns1) (nx := nx1) (i := u * n + k) (ch := ch1) (bd := bd1) (ρ := fun y => k ≠ x → getK y (.X (u * n + x)) = 2 → getK y (.X (u * n + k)) = 0) (to := 0) w1 (idx_lt hu hk) (.inl rfl) (fun e _ _ => e) fun y _ h hl' => h e ((hl.trans hl').def (k := .X (u * n + x)) (idx_lt hu hx) hC (by omega))
    rw [e1, e2, e3]
    exact ⟨ns1, nx4, ch4, bd4, by rw [wi_succ k (by omega)], o4⟩
theorem linked_b2 (w : Wf n v (ns, nx)) (hn : n ≤ 10) (hu : u < n) (hx : x < n) (C : SD → Prop) (hC : ∀ y, Wf n v y → Le n v (ns, nx) y → C y) :
    ∃ ns' nx' ch' bd' j', loopO (fun st : LS => F_impl_sharpener_linked_b2 n u r x st.1 st.2.1 st.2.2.1 st.2.2.2.1 st.2.2.2.2) fuel (ch, bd, ns, nx, 0) = some (ch', bd', ns', nx', j') ∧
      Op n v (fun y => ∀ k, k < n → k ≠ u → C y → getK y (.X (k * n + x)) = 0) (ns, nx) ch bd (ns', nx') ch' bd' := by
  refine loop_op (fun k y => k ≠ u → C y → getK y (.X (k * n + x)) = 0) n (by omega) w (fun k ns1 nx1 ch1 bd1 hk hl w1 => .inl ?_) (fun ns1 nx1 ch1 bd1 => ⟨n, by simp [F_impl_sharpener_linked_b2]⟩)
  unfold F_impl_sharpener_linked_b2
  by_cases e : k = u
  · rw [if_pos (cl hk), if_pos (show (k : Int) = (u : Int) by omega)]
    exact ⟨ns1, nx1, ch1, bd1, by rw [wi_succ k (by omega)], .skip w1 fun h => absurd e h⟩
  · rw [if_pos (cl hk), if_neg (show ¬ (k : Int) = (u : Int) by omega), i_next w1 hn hk hx]
    simp only [Option.bind_some, Int.toNat_natCast]
    rw [grd_t ⟨c0 _, nx_lt w1 hk hx⟩, f_set]
    simp only [Option.bind_some]
    obtain ⟨nx4, ch4, bd4, e1, e2, e3, o4⟩ := i_X (ns := ns1) (nx := nx1) (i := k * n + x) (ch := ch1) (bd := bd1) (ρ := fun y => k ≠ u → C y → getK y (.X (k * n + x)) = 0) (to := 0) w1 (idx_lt hk hx) (.inl rfl) (fun e _ _ => e) fun y wy h hl' => h e (hC y wy (hl.trans hl'))
    rw [e1, e2, e3]
    exact ⟨ns1, nx4, ch4, bd4, by rw [wi_succ k (by omega)], o4⟩
theorem i_linked (w : Wf n v (ns, nx)) (hn : n ≤ 10) (hu : u < n) (hx : x < n) :
    ∃ ns' nx' ch' bd', F_impl_sharpener_linked n ns nx r ch bd (u : Int) (x : Int) = some (ns', nx', ch', bd') ∧ Op n v (Q3 n u x) (ns, nx) ch bd (ns', nx') ch' bd' := by
  unfold F_impl_sharpener_linked
  rw [i_next w hn hu hx]
  simp only [Option.bind_some, Int.toNat_natCast]
  rw [grd_t ⟨c0 _, nx_lt w hu hx⟩]
  by_cases hX : nx.getD (u * n + x) 0 = 2
  · rw [if_pos hX]
    have hP : ∀ q', Le n v (ns, nx) q' → getK q' (.X (u * n + x)) = 2 := fun q' hl => hl.def (k := .X (u * n + x)) (idx_lt hu hx) hX (by omega)
    obtain ⟨ns2, ch2, bd2, h2, o2⟩ := i_one (r := r) (ch := ch) (bd := bd) (ρ := fun y => getK y (.X (u * n + x)) = 2 → getK y (.M x) = 0) w hx (fun e _ => e) fun y _ h hl => h (hP y hl)
    rw [h2]
    simp only [Option.bind_some]
    obtain ⟨ns3, nx3, ch3, bd3, j3, h3, o3⟩ := linked_b1 (r := r) (ch := ch2) (bd := bd2) o2.wf hn hu hx (hP _ o2.le)
    rw [h3]
    simp only [Option.bind_some]
    rw [grd_t ⟨c0 _, cl hx⟩]
    by_cases hS : (ns3.getD x dN).2.2.1 = 0
    · rw [if_pos hS]
      have hl3 := o2.le.trans o3.le
      have hPS : ∀ q', Le n v (ns3, nx3) q' → getK q' (.X (u * n + x)) = 2 ∧ getK q' (.S x) = 0 := fun q' hl => ⟨hP _ (hl3.trans hl), hl.def (k := .S x) hx hS (by omega)⟩
      obtain ⟨ns4, ch4, bd4, h4, o4⟩ := i_one (r := r) (ch := ch3) (bd := bd3) (ρ := fun y => getK y (.X (u * n + x)) = 2 ∧ getK y (.S x) = 0 → getK y (.M u) = 0) o3.wf hu (fun e _ => e) fun y _ h hl => h (hPS y hl)
      rw [h4]
      simp only [Option.bind_some]
      obtain ⟨ns5, nx5, ch5, bd5, j5, h5, o5⟩ := linked_b2 (r := r) (ch := ch4) (bd := bd4) o4.wf hn hu hx (fun y => getK y (.X (u * n + x)) = 2 ∧ getK y (.S x) = 0) fun y _ hl => hPS y (o4.le.trans hl)
      rw [h5]
      refine ⟨ns5, nx5, ch5, bd5, rfl, (o2.comp (o3.comp (o4.comp o5))).weak (fun y _ => ?_) w⟩
      exact ⟨fun ⟨a, b, c, d⟩ h => ⟨a h, fun k hk hne => b k hk hne h, fun hs => ⟨c ⟨h, hs⟩, fun k hk hne => d k hk hne ⟨h, hs⟩⟩⟩, fun h => ⟨fun e => (h e).1, fun k hk hne e => (h e).2.1 k hk hne, fun e => ((h e.1).2.2 e.2).1, fun k hk hne e => ((h e.1).2.2 e.2).2 k hk hne⟩⟩
    · rw [if_neg hS]
      have o4 : Op n v (fun y => getK y (.X (u * n + x)) = 2 → getK y (.S x) = 0 → getK y (.M u) = 0 ∧ ∀ k, k < n → k ≠ u → getK y (.X (k * n + x)) = 0) (ns3, nx3) ch3 bd3 (ns3, nx3) ch3 bd3 := .skip o3.wf fun _ h => absurd h hS
      refine ⟨ns3, nx3, ch3, bd3, rfl, (o2.comp (o3.comp o4)).weak (fun y _ => ?_) w⟩
      exact ⟨fun ⟨a, b, c⟩ h => ⟨a h, fun k hk hne => b k hk hne h, c h⟩, fun h => ⟨fun e => (h e).1, fun k hk hne e => (h e).2.1 k hk hne, fun e => (h e).2.2⟩⟩
  · rw [if_neg hX]
    exact ⟨ns, nx, ch, bd, rfl, .skip w fun h => absurd h hX⟩
/-! ### the seventh -/
abbrev L7 := Bool × Bool × List NodeD × List Int × Int × Int × Int
theorem i_shared_b1 (w : Wf n v (ns, nx)) (hn : n ≤ 10) (hx : x < n) :
    ∃ j', loopO (fun st : L7 => F_impl_sharpener_shared_b1 n r x st.1 st.2.1 st.2.2.1 st.2.2.2.1 st.2.2.2.2.1 st.2.2.2.2.2.1 st.2.2.2.2.2.2) fuel (ch, bd, ns, nx, 0, 0, 0) = some (ch, bd, ns, nx, (may n x (ns, nx) n : Int), (must n x (ns, nx) n : Int), j') := by
  obtain ⟨s', hs, hp⟩ := loopO_inv (body := fun st : L7 => F_impl_sharpener_shared_b1 n r x st.1 st.2.1 st.2.2.1 st.2.2.2.1 st.2.2.2.2.1 st.2.2.2.2.2.1 st.2.2.2.2.2.2) (s0 := (ch, bd, ns, nx, 0, 0, 0)) (PO := fun s => ∃ j', s = (ch, bd, ns, nx, (may n x (ns, nx) n : Int), (must n x (ns, nx) n : Int), j'))
    (fun j s => s = (ch, bd, ns, nx, (may n x (ns, nx) j : Int), (must n x (ns, nx) j : Int), (j : Int))) n (by omega) rfl (by
      rintro j s hj rfl
      unfold F_impl_sharpener_shared_b1
      simp only [Int.toNat_natCast]
      by_cases e : j = n
      · subst e
        exact .inl ⟨_, by rw [if_neg (by omega)], _, rfl⟩
      · have hlt : j < n := by omega
        refine .inr ⟨hlt, ?_⟩
        have b1 := may_bound (n := n) (q := (ns, nx)) (w := x) j
        have b2 := must_bound (n := n) (q := (ns, nx)) (w := x) j
        have w2 : ∀ k : Nat, k ≤ 100 → wi (wi ((k : Int) + 1) + 1) = ((k + 2 : Nat) : Int) := fun k hk => by rw [wi_succ k (by omega), wi_succ (k + 1) (by omega)]
        rw [if_pos (cl hlt), grd_t ⟨c0 _, cl hlt⟩, i_next w hn hlt hx]
        simp only [Option.bind_some, Int.toNat_natCast]
        have hr := nx_lt w hlt hx
        rw [grd_t ⟨c0 _, hr⟩]
        by_cases hX : nx.getD (j * n + x) 0 = 0
        · have hX' : getK (ns, nx) (.X (j * n + x)) = 0 := hX
          rw [if_pos hX]
          refine ⟨_, by rw [wi_succ j (by omega)], ?_⟩
          have e1 : may n x (ns, nx) (j + 1) = may n x (ns, nx) j := by simp [may, hX']
          have e2 : must n x (ns, nx) (j + 1) = must n x (ns, nx) j := by simp [must, hX']
          rw [e1, e2]
        · have hX' : getK (ns, nx) (.X (j * n + x)) ≠ 0 := hX
          rw [if_neg hX]
          by_cases hM : (ns.getD j dN).2.2.2 = 1
          · have hM' : getK (ns, nx) (.M j) = 1 := hM
            have e1 : may n x (ns, nx) (j + 1) = may n x (ns, nx) j + 2 := by simp [may, hX', hM']
            rw [if_pos hM, i_next w hn hlt hx]
            simp only [Option.bind_some, Int.toNat_natCast]
            rw [grd_t ⟨c0 _, hr⟩]
            by_cases h2 : nx.getD (j * n + x) 0 = 2
            · have h2' : getK (ns, nx) (.X (j * n + x)) = 2 := h2
              have e2 : must n x (ns, nx) (j + 1) = must n x (ns, nx) j + 1 := by simp [must, h2']
              rw [if_pos h2]
              exact ⟨_, rfl, by rw [e1, e2, w2 _ (by omega), wi_succ _ (by omega), wi_succ j (by omega)]⟩
            · have h2' : ¬ getK (ns, nx) (.X (j * n + x)) = 2 := h2
              have e2 : must n x (ns, nx) (j + 1) = must n x (ns, nx) j := by simp [must, h2']
              rw [if_neg h2]
              exact ⟨_, rfl, by rw [e1, e2, w2 _ (by omega), wi_succ j (by omega)]⟩
          · have hM' : ¬ getK (ns, nx) (.M j) = 1 := hM
            have e1 : may n x (ns, nx) (j + 1) = may n x (ns, nx) j + 1 := by simp [may, hX', hM']
            rw [if_neg hM, i_next w hn hlt hx]
            simp only [Option.bind_some, Int.toNat_natCast]
            rw [grd_t ⟨c0 _, hr⟩]
            by_cases h2 : nx.getD (j * n + x) 0 = 2
            · have h2' : getK (ns, nx) (.X (j * n + x)) = 2 := h2
              have e2 : must n x (ns, nx) (j + 1) = must n x (ns, nx) j + 1 := by simp [must, h2']
              rw [if_pos h2]
              exact ⟨_, rfl, by rw [e1, e2, wi_succ _ (by omega), wi_succ _ (by omega), wi_succ j (by omega)]⟩
            · have h2' : ¬ getK (ns, nx) (.X (j * n + x)) = 2 := h2
              have e2 : must n x (ns, nx) (j + 1) = must n x (ns, nx) j := by simp [must, h2']
              rw [if_neg h2]
              exact ⟨_, rfl, by rw [e1, e2, wi_succ _ (by omega), wi_succ j (by omega)]⟩)
  obtain ⟨j', rfl⟩ := hp
  exact ⟨j', hs⟩
theorem i_shared (w : Wf n v (ns, nx)) (hn : n ≤ 10) (hx : x < n) :
    ∃ ns' nx' ch' bd', F_impl_sharpener_shared n ns nx r ch bd (x : Int) = some (ns', nx', ch', bd') ∧ Op n v (Q7 n x) (ns, nx) ch bd (ns', nx') ch' bd' := by
  unfold F_impl_sharpener_shared
  obtain ⟨j', hb⟩ := i_shared_b1 (r := r) (ch := ch) (bd := bd) w hn hx
  rw [hb]
  simp only [Option.bind_some, Int.toNat_natCast]
  have hmay : ∀ y, Le n v (ns, nx) y → may n x y n ≤ may n x (ns, nx) n := fun y hl => may_le hl hx n (Nat.le_refl _)
  have hmust : ∀ y, Le n v (ns, nx) y → must n x (ns, nx) n ≤ must n x y n := fun y hl => must_le hl hx n (Nat.le_refl _)
  by_cases hA : (may n x (ns, nx) n : Int) < 2
  · rw [if_pos hA, grd_t ⟨c0 _, cl hx⟩, f_set]
    simp only [Option.bind_some]
    obtain ⟨ns2, ch2, bd2, e1, e2, e3, o1⟩ := i_S (u := x) (to := 0) (ch := ch) (bd := bd) (ρ := fun y => may n x y n < 2 → getK y (.S x) = 0) w hx (.inl rfl) (fun e _ => e) fun y _ h hl => h (by have := hmay y hl; omega)
    rw [e1, e2, e3]
    have w2 : Wf n v (ns2, nx) := o1.wf
    by_cases hM : (ns2.getD x dN).2.2.2 = 0
    · rw [if_pos hM]
      by_cases hB : (must n x (ns, nx) n : Int) ≥ 2
      · rw [if_pos hB, f_set]
        simp only [Option.bind_some]
        obtain ⟨ns3, ch3, bd3, f1, f2, f3, o2⟩ := i_S (u := x) (to := 2) (ch := ch2) (bd := bd2) (ρ := fun y => 2 ≤ must n x y n → getK y (.M x) = 0 → getK y (.S x) = 2) w2 hx (.inr rfl) (fun e _ _ => e) fun y _ h hl => h (by have := hmust y (o1.le.trans hl); omega) (hl.def (k := .M x) hx hM (by omega))
        rw [f1, f2, f3]
        exact ⟨ns3, nx, ch3, bd3, rfl, o1.comp o2⟩
      · rw [if_neg hB]
        exact ⟨ns2, nx, ch2, bd2, rfl, o1.stay fun e h _ => by omega⟩
    · rw [if_neg hM]
      exact ⟨ns2, nx, ch2, bd2, rfl, o1.stay fun e _ h => by
        have h' : (ns.getD x dN).2.2.2 = 0 := h
        have : ns2 = ns := congrArg Prod.fst e
        rw [this] at hM; exact absurd h' hM⟩
  · rw [if_neg hA, grd_t ⟨c0 _, cl hx⟩]
    have o1 : Op n v (fun y => may n x y n < 2 → getK y (.S x) = 0) (ns, nx) ch bd (ns, nx) ch bd := .skip w fun h => by omega
    by_cases hM : (ns.getD x dN).2.2.2 = 0
    · rw [if_pos hM]
      by_cases hB : (must n x (ns, nx) n : Int) ≥ 2
      · rw [if_pos hB, f_set]
        simp only [Option.bind_some]
        obtain ⟨ns3, ch3, bd3, f1, f2, f3, o2⟩ := i_S (u := x) (to := 2) (ch := ch) (bd := bd) (ρ := fun y => 2 ≤ must n x y n → getK y (.M x) = 0 → getK y (.S x) = 2) w hx (.inr rfl) (fun e _ _ => e) fun y _ h hl => h (by have := hmust y hl; omega) (hl.def (k := .M x) hx hM (by omega))
        rw [f1, f2, f3]
        exact ⟨ns3, nx, ch3, bd3, rfl, o1.comp o2⟩
      · rw [if_neg hB]
        exact ⟨ns, nx, ch, bd, rfl, o1.stay fun e h _ => by omega⟩
    · rw [if_neg hM]
      exact ⟨ns, nx, ch, bd, rfl, o1.stay fun e _ h => absurd h hM⟩
/-! ### the sixth -/
theorem sourced_loop (w : Wf n v (ns, nx)) (hn : n ≤ 10) (hx : x < n) (hz : z < v) :
    ∃ ns' ch' bd' j', loopO (fun st : L4 => F_impl_sharpener_sourced_b1 n z nx x st.1 st.2.1 st.2.2.1 st.2.2.2) fuel (ch, bd, ns, 0) = some (ch', bd', ns', j') ∧
      Op n v (fun y => ∀ u, u < n → Q6b n z u x y) (ns, nx) ch bd (ns', nx) ch' bd' := by
  refine loop4 (fun u y => Q6b n z u x y) n (by omega) w (fun u ns1 ch1 bd1 hu hl w1 => ?_) (fun ns1 ch1 bd1 => ⟨n, by simp [F_impl_sharpener_sourced_b1]⟩)
  unfold F_impl_sharpener_sourced_b1
  simp only [Int.toNat_natCast]
  rw [if_pos (cl hu), grd_t ⟨c0 _, cl hu⟩, grd_t ⟨c0 _, len1 w1 hu hz⟩]
  by_cases hV : (ns1.getD u dN).1.getD z 0 = 2
  · rw [if_pos hV]
    obtain ⟨p, hp, hp0⟩ := i_path w1 hn hu hx
    rw [hp]
    simp only [Option.bind_some]
    by_cases h0 : p = 0
    · rw [if_pos h0, grd_t ⟨c0 _, len2 w1 hx hz⟩, f_set]
      simp only [Option.bind_some]
      obtain ⟨ns4, ch4, bd4, e1, e2, e3, o4⟩ := i_R (ch := ch1) (bd := bd1) (ρ := Q6b n z u x) (to := 0) w1 hx hz (.inl rfl) (fun e _ _ => e) fun y _ h hl' => h (hl'.def (k := .V u z) ⟨hu, hz⟩ hV (by omega)) (pathZ_le hl' (hp0.1 h0))
      rw [e1, e2, e3]
      exact ⟨ns4, ch4, bd4, by rw [wi_succ u (by omega)], o4⟩
    · rw [if_neg h0]
      exact ⟨ns1, ch1, bd1, by rw [wi_succ u (by omega)], .skip w1 fun _ hz => absurd (hp0.2 hz) h0⟩
  · rw [if_neg hV]
    exact ⟨ns1, ch1, bd1, by rw [wi_succ u (by omega)], .skip w1 fun h => absurd h hV⟩
abbrev L6 := Bool × Bool × List NodeD × List Int × List Int × Int
theorem sourced_b2 (w : Wf n v (ns, nx)) (hn : n ≤ 10) (hx : x < n) (hz : z < v) :
    ∃ j', loopO (fun st : L6 => F_impl_sharpener_sourced_b2 n r x z st.1 st.2.1 st.2.2.1 st.2.2.2.1 st.2.2.2.2.1 st.2.2.2.2.2) fuel (ch, bd, ns, nx, [], 0) = some (ch, bd, ns, nx, (srcs n z x (ns, nx)).map (fun (k : Nat) => (k : Int)), j') := by
  obtain ⟨s', hs, hp⟩ := loopO_inv (body := fun st : L6 => F_impl_sharpener_sourced_b2 n r x z st.1 st.2.1 st.2.2.1 st.2.2.2.1 st.2.2.2.2.1 st.2.2.2.2.2) (s0 := (ch, bd, ns, nx, [], 0)) (PO := fun s => ∃ j', s = (ch, bd, ns, nx, (srcs n z x (ns, nx)).map (fun (k : Nat) => (k : Int)), j'))
    (fun j s => s = (ch, bd, ns, nx, ((List.range j).filter fun u => decide (getK (ns, nx) (.X (u * n + x)) ≠ 0 ∧ getK (ns, nx) (.R u z) ≠ 0)).map (fun (k : Nat) => (k : Int)), (j : Int))) n (by omega) rfl (by
      rintro j s hj rfl
      unfold F_impl_sharpener_sourced_b2
      simp only [Int.toNat_natCast]
      by_cases e : j = n
      · subst e
        exact .inl ⟨_, by rw [if_neg (by omega)]; rfl, _, rfl⟩
      · have hlt : j < n := by omega
        refine .inr ⟨hlt, ?_⟩
        rw [if_pos (cl hlt), i_next w hn hlt hx]
        simp only [Option.bind_some, Int.toNat_natCast]
        rw [grd_t ⟨c0 _, nx_lt w hlt hx⟩]
        have hlen := srcs_len (n := n) (x := x) (z := z) (q := (ns, nx)) j
        by_cases hX : nx.getD (j * n + x) 0 = 0
        · have hX' : getK (ns, nx) (.X (j * n + x)) = 0 := hX
          rw [if_pos hX]
          refine ⟨_, by rw [wi_succ j (by omega)], ?_⟩
          rw [List.range_succ, List.filter_append, List.map_append]
          simp [hX']
        · have hX' : ¬ getK (ns, nx) (.X (j * n + x)) = 0 := hX
          rw [if_neg hX, grd_t ⟨c0 _, cl hlt⟩, grd_t ⟨c0 _, len2 w hlt hz⟩]
          by_cases hR : (ns.getD j dN).2.1.getD z 0 = 0
          · rw [if_pos hR]
            refine ⟨_, by rw [wi_succ j (by omega)], ?_⟩
            rw [List.range_succ, List.filter_append, List.map_append]
            have hR' : getK (ns, nx) (.R j z) = 0 := hR
            simp [hR']
          · rw [if_neg hR, grd_t (by rw [List.length_map]; unfold lim; omega)]
            refine ⟨_, by rw [wi_succ j (by omega)], ?_⟩
            rw [List.range_succ, List.filter_append, List.map_append]
            have hR' : ¬ getK (ns, nx) (.R j z) = 0 := hR
            simp [hX', hR'])
  obtain ⟨j', rfl⟩ := hp
  exact ⟨j', hs⟩
theorem i_sourced (w : Wf n v (ns, nx)) (hn : n ≤ 10) (hz : z < v) (hx : x < n) :
    ∃ ns' nx' ch' bd', F_impl_sharpener_sourced n ns nx r ch bd (z : Int) (x : Int) = some (ns', nx', ch', bd') ∧ Op n v (fun y => Q6 n z x y ∧ ∀ u, u < n → Q6b n z u x y) (ns, nx) ch bd (ns', nx') ch' bd' := by
  unfold F_impl_sharpener_sourced
  simp only [Int.toNat_natCast]
  rw [grd_t ⟨c0 _, cl hx⟩, grd_t ⟨c0 _, len1 w hx hz⟩]
  -- what comes last
  have last : ∀ {ns1 : List NodeD} {nx1 : List Int} {ch1 bd1 : Bool}, Op n v (Q6 n z x) (ns, nx) ch bd (ns1, nx1) ch1 bd1 → ∃ ns' ch' bd' j', loopO (fun st : L4 => F_impl_sharpener_sourced_b1 n z nx1 x st.1 st.2.1 st.2.2.1 st.2.2.2) fuel (ch1, bd1, ns1, 0) = some (ch', bd', ns', j') ∧
      Op n v (fun y => Q6 n z x y ∧ ∀ u, u < n → Q6b n z u x y) (ns, nx) ch bd (ns', nx1) ch' bd' := by
    intro ns1 nx1 ch1 bd1 o
    obtain ⟨ns2, ch2, bd2, j2, h2, o2⟩ := sourced_loop (ch := ch1) (bd := bd1) o.wf hn hx hz
    exact ⟨ns2, ch2, bd2, j2, h2, o.comp o2⟩
  have last0 : Q6 n z x (ns, nx) → _ := fun h => last (ns1 := ns) (nx1 := nx) (ch1 := ch) (bd1 := bd) (.skip w h)
  by_cases hV : (ns.getD x dN).1.getD z 0 = 0
  rotate_left
  · rw [if_neg hV]
    obtain ⟨ns2, ch2, bd2, j2, h2, o2⟩ := last0 fun h => absurd h hV
    rw [h2]
    exact ⟨ns2, nx, ch2, bd2, rfl, o2⟩
  rw [if_pos hV, grd_t ⟨c0 _, len2 w hx hz⟩]
  by_cases hR : (ns.getD x dN).2.1.getD z 0 = 0
  · rw [if_pos hR]
    obtain ⟨ns2, ch2, bd2, j2, h2, o2⟩ := last0 fun _ h => absurd hR h
    rw [h2]
    exact ⟨ns2, nx, ch2, bd2, rfl, o2⟩
  rw [if_neg hR]
  obtain ⟨jb, hb⟩ := sourced_b2 (r := r) (ch := ch) (bd := bd) w hn hx hz
  rw [hb]
  simp only [Option.bind_some, List.length_map]
  have hV' : getK (ns, nx) (.V x z) = 0 := hV
  have hPV : ∀ q', Le n v (ns, nx) q' → getK q' (.V x z) = 0 := fun q' hl => hl.def (k := .V x z) ⟨hx, hz⟩ hV' (by omega)
  have eb3 : ∀ (l : List Int) (nsx : List NodeD) (chx bdx : Bool), (fun st : L4 => F_impl_sharpener_sourced_b3 n z (chx, bdx, nsx, nx, l, jb) x st.1 st.2.1 st.2.2.1 st.2.2.2) = fun st : L4 => F_impl_sharpener_sourced_b1 n z nx x st.1 st.2.1 st.2.2.1 st.2.2.2 := fun _ _ _ _ => rfl
  rw [eb3]
  by_cases h0 : srcs n z x (ns, nx) = []
  · rw [h0, if_pos (show (([] : List Nat).length : Int) = 0 from rfl), grd_t ⟨c0 _, len2 w hx hz⟩, f_set]
    simp only [Option.bind_some]
    obtain ⟨ns4, ch4, bd4, e1, e2, e3, o4⟩ := i_R (ch := ch) (bd := bd) (ρ := Q6 n z x) (to := 0) w hx hz (.inl rfl) (fun e _ h => absurd e h) fun y wy h hl => by
      refine Classical.byContradiction fun hne => ?_
      refine (h (hPV y hl) hne).1 (List.eq_nil_iff_forall_not_mem.2 fun k hk => ?_)
      have := srcs_le hl hz hx k hk
      rw [h0] at this; cases this
    rw [e1, e2, e3]
    obtain ⟨ns2, ch2, bd2, j2, h2, o2⟩ := last o4
    rw [h2]
    exact ⟨ns2, nx, ch2, bd2, rfl, o2⟩
  have hlp : 0 < (srcs n z x (ns, nx)).length := List.length_pos_iff.2 h0
  rw [if_neg (by omega)]
  by_cases h1 : (srcs n z x (ns, nx)).length = 1
  rotate_left
  · rw [if_neg (by omega)]
    obtain ⟨ns2, ch2, bd2, j2, h2, o2⟩ := last0 fun _ _ => ⟨h0, fun k hk => by rw [hk] at h1; simp at h1⟩
    rw [h2]
    exact ⟨ns2, nx, ch2, bd2, rfl, o2⟩
  obtain ⟨u, hu'⟩ := List.length_eq_one_iff.1 h1
  have hu : u < n := srcs_lt (n := n) (z := z) (x := x) (q := (ns, nx)) (by rw [hu']; simp)
  rw [hu']
  simp only [List.length_singleton, List.map_cons, List.map_nil]
  have e0 : ([(u : Int)] : List Int).getD (0 : Int).toNat 0 = (u : Int) := rfl
  rw [if_pos (show ((1 : Nat) : Int) = 1 from rfl), grd_t (show (0 : Int) < ((1 : Nat) : Int) by omega), e0]
  simp only [Int.toNat_natCast]
  rw [grd_t ⟨c0 _, cl hu⟩]
  by_cases hM : (ns.getD u dN).2.2.2 = 0
  rotate_left
  · rw [if_neg hM]
    obtain ⟨ns2, ch2, bd2, j2, h2, o2⟩ := last0 fun _ _ => ⟨h0, fun k hk e => by rw [hu'] at hk; simp at hk; subst hk; exact absurd e hM⟩
    rw [h2]
    exact ⟨ns2, nx, ch2, bd2, rfl, o2⟩
  rw [if_pos hM]
  by_cases hMx : (ns.getD x dN).2.2.2 = 0
  rotate_left
  · rw [if_neg hMx]
    obtain ⟨ns2, ch2, bd2, j2, h2, o2⟩ := last0 fun _ _ => ⟨h0, fun k hk _ e => absurd e hMx⟩
    rw [h2]
    exact ⟨ns2, nx, ch2, bd2, rfl, o2⟩
  rw [if_pos hMx, grd_t ⟨c0 _, len2 w hx hz⟩]
  by_cases hR2 : (ns.getD x dN).2.1.getD z 0 = 2
  rotate_left
  · rw [if_neg hR2]
    obtain ⟨ns2, ch2, bd2, j2, h2, o2⟩ := last0 fun _ _ => ⟨h0, fun k hk _ _ e => absurd e hR2⟩
    rw [h2]
    exact ⟨ns2, nx, ch2, bd2, rfl, o2⟩
  rw [if_pos hR2]
  let C : SD → Prop := fun y => getK y (.V x z) = 0 ∧ getK y (.R x z) = 2 ∧ getK y (.M u) = 0 ∧ getK y (.M x) = 0 ∧ ∀ k, k ∈ srcs n z x y → k = u
  have hC : ∀ y, Wf n v y → Le n v (ns, nx) y → C y := fun y _ hl => ⟨hPV y hl, hl.def (k := .R x z) ⟨hx, hz⟩ hR2 (by omega), hl.def (k := .M u) hu hM (by omega), hl.def (k := .M x) hx hMx (by omega), fun k hk => by
    have := srcs_le hl hz hx k hk
    rw [hu'] at this; simpa using this⟩
  rw [i_next w hn hu hx]
  simp only [Option.bind_some, Int.toNat_natCast]
  rw [grd_t ⟨c0 _, nx_lt w hu hx⟩, f_set]
  simp only [Option.bind_some]
  have eb4 : ∀ (c : Int × Bool × Bool), (fun st : L4 => F_impl_sharpener_sourced_b4 n z (((u * n + x : Nat) : Int), ns, nx, ch, bd) c x st.1 st.2.1 st.2.2.1 st.2.2.2) = fun st : L4 => F_impl_sharpener_sourced_b1 n z (nx.set (u * n + x) c.1) x st.1 st.2.1 st.2.2.1 st.2.2.2 := fun _ => rfl
  rw [eb4]
  obtain ⟨nx3, ch3, bd3, e1, e2, e3, o3⟩ := i_X (ns := ns) (nx := nx) (i := u * n + x) (ch := ch) (bd := bd) (ρ := fun y => C y → getK y (.X (u * n + x)) = 2) (to := 2) w (idx_lt hu hx) (.inr rfl) (fun e _ => e) fun y wy h hl => h (hC y wy hl)
  rw [e1, e2, e3, grd_t ⟨c0 _, len2 w hu hz⟩, f_set]
  simp only [Option.bind_some]
  obtain ⟨ns4, ch4, bd4, f1, f2, f3, o4⟩ := i_R (ns := ns) (nx := nx3) (ch := ch3) (bd := bd3) (ρ := fun y => C y → getK y (.R u z) = 2) (to := 2) o3.wf hu hz (.inr rfl) (fun e _ => e) fun y wy h hl => h (hC y wy (o3.le.trans hl))
  rw [f1, f2, f3]
  have o6 : Op n v (Q6 n z x) (ns, nx) ch bd (ns4, nx3) ch4 bd4 := (o3.comp o4).wk (fun ⟨a, b⟩ _ _ => ⟨h0, fun k hk _ _ _ => by
    rw [hu'] at hk
    obtain rfl : u = k := by simpa using hk
    exact ⟨a (hC _ w Le.refl), b (hC _ w Le.refl)⟩⟩) fun y wy h hl => by
    have key : C y → getK y (.X (u * n + x)) = 2 ∧ getK y (.R u z) = 2 := fun ⟨a, b, c, d, e⟩ => by
      obtain ⟨g1, g2⟩ := h a (by omega)
      exact g2 u (srcs_one g1 e) c d b
    exact ⟨fun c => (key c).1, fun c => (key c).2⟩
  obtain ⟨ns2, ch2, bd2, j2, h2, o2⟩ := last o6
  rw [h2]
  exact ⟨ns2, nx3, ch2, bd2, rfl, o2⟩
/-! ### a round -/
theorem i_round (w : Wf n v (ns, nx)) (hn : n ≤ 10) (hv : v ≤ 4) :
    ∃ ns' nx' ch' bd', F_impl_sharpener_round n ns nx v ch bd = some (ns', nx', ch', bd') ∧ Op n v (Sharp n v) (ns, nx) ch bd (ns', nx') ch' bd' := by
  unfold F_impl_sharpener_round
  obtain ⟨ns1, nx1, ch1, bd1, j1, h1, o1⟩ := loop_op (n := n) (v := v) (ch := ch) (bd := bd) (body := fun st : LS => F_impl_sharpener_round_b3 v n st.1 st.2.1 st.2.2.1 st.2.2.2.1 st.2.2.2.2) (fun z y => Q2 n z y ∧ ∀ u, u < n → Q1 n z u y ∧ (Q6 n z u y ∧ ∀ x, x < n → Q6b n z x u y) ∧ ∀ w, w < n → Q4 n z u w y) v (by omega) w (fun z ns1 nx1 ch1 bd1 hz hl w1 => .inl (by
    unfold F_impl_sharpener_round_b3
    rw [if_pos (cl hz)]
    obtain ⟨ns2, nx2, ch2, bd2, h2, o2⟩ := i_null (r := (v : Int)) (ch := ch1) (bd := bd1) w1 hn hz
    rw [h2]
    simp only [Option.bind_some]
    obtain ⟨ns3, nx3, ch3, bd3, j3, h3, o3⟩ := loop_op (n := n) (v := v) (ch := ch2) (bd := bd2) (body := fun st : LS => F_impl_sharpener_round_b2 n v z st.1 st.2.1 st.2.2.1 st.2.2.2.1 st.2.2.2.2) (fun u y => Q1 n z u y ∧ (Q6 n z u y ∧ ∀ x, x < n → Q6b n z x u y) ∧ ∀ w, w < n → Q4 n z u w y) n (by omega) o2.wf (fun u ns1 nx1 ch1 bd1 hu hl w1 => .inl (by
      unfold F_impl_sharpener_round_b2
      rw [if_pos (cl hu)]
      obtain ⟨ns2, nx2, ch2, bd2, h2, o2⟩ := i_pointed (r := (v : Int)) (ch := ch1) (bd := bd1) w1 hn hz hu
      rw [h2]
      simp only [Option.bind_some]
      obtain ⟨ns3, nx3, ch3, bd3, h3, o3⟩ := i_sourced (r := (v : Int)) (ch := ch2) (bd := bd2) o2.wf hn hz hu
      rw [h3]
      simp only [Option.bind_some]
      obtain ⟨ns4, nx4, ch4, bd4, j4, h4, o4⟩ := loop_op (n := n) (v := v) (ch := ch3) (bd := bd3) (body := fun st : LS => F_impl_sharpener_round_b1 n v z u st.1 st.2.1 st.2.2.1 st.2.2.2.1 st.2.2.2.2) (fun x y => Q4 n z u x y) n (by omega) o3.wf (fun x ns1 nx1 ch1 bd1 hx hl w1 => .inl (by
        unfold F_impl_sharpener_round_b1
        rw [if_pos (cl hx)]
        obtain ⟨ns2, nx2, ch2, bd2, h2, o2⟩ := i_followed (r := (v : Int)) (ch := ch1) (bd := bd1) w1 hn hz hu hx
        rw [h2]
        exact ⟨ns2, nx2, ch2, bd2, by simp only [Option.bind_some]; rw [wi_succ x (by omega)], o2⟩)) (fun ns1 nx1 ch1 bd1 => ⟨n, by simp [F_impl_sharpener_round_b1]⟩)
      rw [h4]
      exact ⟨ns4, nx4, ch4, bd4, by simp only [Option.bind_some]; rw [wi_succ u (by omega)], o2.comp (o3.comp o4)⟩)) (fun ns1 nx1 ch1 bd1 => ⟨n, by simp [F_impl_sharpener_round_b2]⟩)
    rw [h3]
    exact ⟨ns3, nx3, ch3, bd3, by simp only [Option.bind_some]; rw [wi_succ z (by omega)], o2.comp o3⟩)) (fun ns1 nx1 ch1 bd1 => ⟨v, by simp [F_impl_sharpener_round_b3]⟩)
  rw [h1]
  simp only [Option.bind_some]
  obtain ⟨ns2, nx2, ch2, bd2, j2, h2, o2⟩ := loop_op (n := n) (v := v) (ch := ch1) (bd := bd1) (body := fun st : LS => F_impl_sharpener_round_b5 n v st.1 st.2.1 st.2.2.1 st.2.2.2.1 st.2.2.2.2) (fun u y => (Q5a n u y ∧ ∀ z, z < v → ∀ w, w < n → Q5b n z u w y) ∧ Q7 n u y ∧ Q8 v u y ∧ ∀ w, w < n → Q3 n u w y) n (by omega) o1.wf (fun u ns1 nx1 ch1 bd1 hu hl w1 => .inl (by
    unfold F_impl_sharpener_round_b5
    rw [if_pos (cl hu)]
    obtain ⟨ns2, nx2, ch2, bd2, h2, o2⟩ := i_acyclic (ch := ch1) (bd := bd1) w1 hn hv hu
    rw [h2]
    simp only [Option.bind_some]
    obtain ⟨ns3, nx3, ch3, bd3, h3, o3⟩ := i_shared (r := (v : Int)) (ch := ch2) (bd := bd2) o2.wf hn hu
    rw [h3]
    simp only [Option.bind_some]
    obtain ⟨ns4, nx4, ch4, bd4, h4, o4⟩ := i_met (r := (v : Int)) (ch := ch3) (bd := bd3) o3.wf hn hv hu
    rw [h4]
    simp only [Option.bind_some]
    obtain ⟨ns5, nx5, ch5, bd5, j5, h5, o5⟩ := loop_op (n := n) (v := v) (ch := ch4) (bd := bd4) (body := fun st : LS => F_impl_sharpener_round_b4 n v u st.1 st.2.1 st.2.2.1 st.2.2.2.1 st.2.2.2.2) (fun x y => Q3 n u x y) n (by omega) o4.wf (fun x ns1 nx1 ch1 bd1 hx hl w1 => .inl (by
      unfold F_impl_sharpener_round_b4
      rw [if_pos (cl hx)]
      obtain ⟨ns2, nx2, ch2, bd2, h2, o2⟩ := i_linked (r := (v : Int)) (ch := ch1) (bd := bd1) w1 hn hu hx
      rw [h2]
      exact ⟨ns2, nx2, ch2, bd2, by simp only [Option.bind_some]; rw [wi_succ x (by omega)], o2⟩)) (fun ns1 nx1 ch1 bd1 => ⟨n, by simp [F_impl_sharpener_round_b4]⟩)
    rw [h5]
    exact ⟨ns5, nx5, ch5, bd5, by simp only [Option.bind_some]; rw [wi_succ u (by omega)], o2.comp (o3.comp (o4.comp o5))⟩)) (fun ns1 nx1 ch1 bd1 => ⟨n, by simp [F_impl_sharpener_round_b5]⟩)
  rw [h2]
  exact ⟨ns2, nx2, ch2, bd2, rfl, o1.comp o2⟩
end
end Go.Proofs.Ytpfibofoeblapaa
