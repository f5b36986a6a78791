/- Walks, printed. -/
import Derived.Test.YtpfibofoeblapaaHand
import Derived.Test.YtpfibofoeblapaaQ
import Derived.Test.YtpfibofoeblapaaSt
import Derived.Test.YtpfibofoeblapaaPB
import Derived.Test.YtpfibofoeblapaaKB
set_option linter.unusedVariables false
set_option linter.unusedSimpArgs false
namespace Go.Proofs.Ytpfibofoeblapaa
open Go Go.RowKit
set_option maxRecDepth 20000
set_option maxHeartbeats 4000000
theorem c_laws_szIntS {w : World} {a : List Int} {v_a : Value} {left : Int} (r_a : Rd (.sl 3 (.int .i64)) (hp w) a [v_a]) {r : Int} (h : F_laws_szIntS a left = some r) : Calls Try.prog 69 [v_a, iv left].toArray w (P1 (.int .i64) w r) := by
  unfold F_laws_szIntS at h
  have HS := St.init w
  have hs := Sub.refl (hp w)
  refine calls_ex (n := 12) Try.func69 rfl Try.ntmps69 (Nat.le_of_ble_eq_true rfl) ?_
  refine ex_seq ?_
  refine ex_region ?_
  refine ro_lt (r_as (v := iv 0) rfl) rfl ?_
  refine RO.nil (nx ?_)
  refine ex_seq ?_
  refine ex_region ?_
  refine ro_lt (r_mv (v := iv left) rfl) rfl ?_
  refine ro_lt (r_mv (v := v_a) rfl) rfl ?_
  have b1 := (r_a.sub HS.sub).big
  refine ro_lt (r_len (n := 1) (r_a.sub HS.sub) sl25 rfl) rfl ?_
  refine ro_lt (r_subw rfl rfl) rfl ?_
  refine ro_lt (r_as (v := iv (wi (left - (a.length : Int)))) rfl) rfl ?_
  refine RO.nil (nx ?_)
  refine ex_seq ?_
  refine ex_seq ?_
  refine ex_region ?_
  refine ro_lt (r_mv (v := iv (wi (left - (a.length : Int)))) rfl) rfl ?_
  refine ro_lt (r_lss rfl rfl) rfl ?_
  refine RO.nil (nx ?_)
  replace h := ite_some h; rcases h with ⟨c2, h⟩ | ⟨c2, h⟩
  · refine ex_if_t rfl (decide_eq_true c2) ?_
    refine ex_seq ?_
    refine ex_region ?_
    refine ro_lt (r_as (v := iv ((-1))) rfl) rfl ?_
    refine RO.nil (nx ?_)
    obtain rfl := Option.some.inj h
    refine ex_ret (tq_ret ?_)
    exact ret1 (.inr rfl) rfl rfl (P1.of_flat HS hs rfl)
  refine ex_if_f rfl (decide_eq_false c2) ?_
  refine ex_skip (nx ?_)
  refine ex_seq ?_
  refine ex_region ?_
  refine ro_lt (r_mv (v := iv (wi (left - (a.length : Int)))) rfl) rfl ?_
  refine ro_lt (r_as (v := iv (wi (left - (a.length : Int)))) rfl) rfl ?_
  refine RO.nil (nx ?_)
  obtain rfl := Option.some.inj h
  refine ex_ret ?_
  exact ret1 (.inr rfl) rfl rfl (P1.of_flat HS hs rfl)
theorem c_laws_szNode {w : World} {a : List Int × List Int × Int × Int} {v_a0 : Value} {v_a1 : Value} {left : Int} (r_a0 : Rd (.sl 3 (.int .i64)) (hp w) a.1 [v_a0]) (r_a1 : Rd (.sl 3 (.int .i64)) (hp w) a.2.1 [v_a1]) {r : Int} (h : F_laws_szNode a left = some r) : Calls Try.prog 118 [.agg #[v_a0, v_a1, iv a.2.2.1, iv a.2.2.2], iv left].toArray w (P1 (.int .i64) w r) := by
  unfold F_laws_szNode at h
  have HS := St.init w
  have hs := Sub.refl (hp w)
  refine calls_ex (n := 18) Try.func118 rfl Try.ntmps118 (Nat.le_of_ble_eq_true rfl) ?_
  refine ex_seq ?_
  refine ex_region ?_
  refine ro_hy (o_boxz HS (cs := [v_a0, v_a1, iv a.2.2.1, iv a.2.2.2]) rfl rfl) rfl ?_
  rintro _ w2 ⟨g1, H5, rfl, q3, l4, hb, HS⟩
  replace r_a0 := r_a0.sub q3
  replace r_a1 := r_a1.sub q3
  replace hs := hs.trans q3
  refine ro_lt (r_as (v := iv 0) rfl) rfl ?_
  refine RO.nil (nx ?_)
  refine ex_seq ?_
  refine ex_region ?_
  refine ro_lt (r_fa (l4.sub HS.sub) fd123_0 rfl) rfl ?_
  refine ro_lt (r_ld ((l4.seg 0 1).sub HS.sub) sc25 rfl) rfl ?_
  refine ro_lt (r_mv (v := iv left) rfl) rfl ?_
  replace h := bind_some h; obtain ⟨y6, e7, h⟩ := h
  refine ro_hy (o_cf (vs := [v_a0, iv left]) HS rfl (c_laws_szIntS (r_a0.sub HS.sub) e7) cf69 rfl) rfl ?_
  rintro _ w8 ⟨rfl, hb, HS⟩
  refine ro_lt (r_as (v := iv y6) rfl) rfl ?_
  refine RO.nil (nx ?_)
  refine ex_seq ?_
  refine ex_seq ?_
  refine ex_region ?_
  refine ro_lt (r_mv (v := iv y6) rfl) rfl ?_
  refine ro_lt (r_lss rfl rfl) rfl ?_
  refine RO.nil (nx ?_)
  replace h := ite_some h; rcases h with ⟨c9, h⟩ | ⟨c9, h⟩
  · refine ex_if_t rfl (decide_eq_true c9) ?_
    refine ex_seq ?_
    refine ex_region ?_
    refine ro_lt (r_as (v := iv ((-1))) rfl) rfl ?_
    refine RO.nil (nx ?_)
    obtain rfl := Option.some.inj h
    refine ex_ret (tq_ret ?_)
    exact ret1 (.inr rfl) rfl rfl (P1.of_flat HS hs rfl)
  refine ex_if_f rfl (decide_eq_false c9) ?_
  refine ex_skip (nx ?_)
  refine ex_seq ?_
  refine ex_region ?_
  refine ro_lt (r_fa (l4.sub HS.sub) fd123_1 rfl) rfl ?_
  refine ro_lt (r_ld ((l4.seg 1 1).sub HS.sub) sc25 rfl) rfl ?_
  refine ro_lt (r_mv (v := iv y6) rfl) rfl ?_
  replace h := bind_some h; obtain ⟨y10, e11, h⟩ := h
  refine ro_hy (o_cf (vs := [v_a1, iv y6]) HS rfl (c_laws_szIntS (r_a1.sub HS.sub) e11) cf69 rfl) rfl ?_
  rintro _ w12 ⟨rfl, hb, HS⟩
  refine ro_lt (r_as (v := iv y10) rfl) rfl ?_
  refine RO.nil (nx ?_)
  refine ex_seq ?_
  refine ex_seq ?_
  refine ex_region ?_
  refine ro_lt (r_mv (v := iv y10) rfl) rfl ?_
  refine ro_lt (r_lss rfl rfl) rfl ?_
  refine RO.nil (nx ?_)
  replace h := ite_some h; rcases h with ⟨c13, h⟩ | ⟨c13, h⟩
  · refine ex_if_t rfl (decide_eq_true c13) ?_
    refine ex_seq ?_
    refine ex_region ?_
    refine ro_lt (r_as (v := iv ((-1))) rfl) rfl ?_
    refine RO.nil (nx ?_)
    obtain rfl := Option.some.inj h
    refine ex_ret (tq_ret ?_)
    exact ret1 (.inr rfl) rfl rfl (P1.of_flat HS hs rfl)
  refine ex_if_f rfl (decide_eq_false c13) ?_
  refine ex_skip (nx ?_)
  refine ex_seq ?_
  refine ex_region ?_
  refine ro_lt (r_mv (v := iv y10) rfl) rfl ?_
  refine ro_lt (r_as (v := iv y10) rfl) rfl ?_
  refine RO.nil (nx ?_)
  obtain rfl := Option.some.inj h
  refine ex_ret ?_
  exact ret1 (.inr rfl) rfl rfl (P1.of_flat HS hs rfl)
theorem c_laws_szNodeS {w : World} {a : List (List Int × List Int × Int × Int)} {v_a : Value} {left : Int} (r_a : Rd (.sl 123 (.prod (.sl 3 (.int .i64)) (.prod (.sl 3 (.int .i64)) (.prod (.int .i64) (.int .i64))))) (hp w) a [v_a]) {r : Int} (h : F_laws_szNodeS a left = some r) : Calls Try.prog 68 [v_a, iv left].toArray w (P1 (.int .i64) w r) := by
  unfold F_laws_szNodeS at h
  have HS := St.init w
  have hs := Sub.refl (hp w)
  refine calls_ex (n := 27) Try.func68 rfl Try.ntmps68 (Nat.le_of_ble_eq_true rfl) ?_
  refine ex_seq ?_
  refine ex_region ?_
  refine ro_lt (r_as (v := iv 0) rfl) rfl ?_
  refine RO.nil (nx ?_)
  refine ex_seq ?_
  refine ex_region ?_
  refine ro_lt (r_mv (v := iv left) rfl) rfl ?_
  refine ro_lt (r_mv (v := v_a) rfl) rfl ?_
  have b1 := (r_a.sub HS.sub).big
  refine ro_lt (r_len (n := 4) (r_a.sub HS.sub) sl41 rfl) rfl ?_
  refine ro_lt (r_subw rfl rfl) rfl ?_
  refine ro_lt (r_as (v := iv (wi (left - (a.length : Int)))) rfl) rfl ?_
  refine RO.nil (nx ?_)
  refine ex_seq ?_
  refine ex_seq ?_
  refine ex_region ?_
  refine ro_lt (r_mv (v := iv (wi (left - (a.length : Int)))) rfl) rfl ?_
  refine ro_lt (r_lss rfl rfl) rfl ?_
  refine RO.nil (nx ?_)
  replace h := ite_some h; rcases h with ⟨c2, h⟩ | ⟨c2, h⟩
  · refine ex_if_t rfl (decide_eq_true c2) ?_
    refine ex_seq ?_
    refine ex_region ?_
    refine ro_lt (r_as (v := iv ((-1))) rfl) rfl ?_
    refine RO.nil (nx ?_)
    obtain rfl := Option.some.inj h
    refine ex_ret (tq_ret ?_)
    exact ret1 (.inr rfl) rfl rfl (P1.of_flat HS hs rfl)
  refine ex_if_f rfl (decide_eq_false c2) ?_
  refine ex_skip (nx ?_)
  refine ex_seq ?_
  refine ex_seq ?_
  refine ex_region ?_
  refine ro_lt (r_as (v := iv 0) rfl) rfl ?_
  refine RO.nil (nx ?_)
  replace h := bind_some h; obtain ⟨y24, e25, h⟩ := h
  refine ex_lbr (fun (st : Int × Int) s' w' => Has s' [(0, v_a), (1, iv st.1), (4, iv 0), (5, iv st.2)] ∧ St w (hp w) w' []) (fun r s' w' => FQ Try.prog Try.f68 27 (P1 (.int .i64) w r) .ret s' w') e25 ⟨⟨rfl, rfl, rfl, rfl, trivial⟩, HS⟩ ?_ ?_
  · rintro ⟨left_9, i_10⟩ c' s' w11 ⟨hs_, HS⟩ h
    rw [has_put hs_]; clear hs_
    try dsimp only at HS
    replace h : F_laws_szNodeS_b1 a left_9 i_10 = some c' := h
    unfold F_laws_szNodeS_b1 at h
    refine ex_seq ?_
    refine ex_seq ?_
    refine ex_region ?_
    refine ro_lt (r_mv (v := iv i_10) rfl) rfl ?_
    refine ro_lt (r_mv (v := v_a) rfl) rfl ?_
    refine ro_lt (r_len (n := 4) (r_a.sub HS.sub) sl41 rfl) rfl ?_
    refine ro_lt (r_lss rfl rfl) rfl ?_
    refine RO.nil (nx ?_)
    replace h := ite_some h; rcases h with ⟨c12, h⟩ | ⟨c12, h⟩
    rotate_left
    · refine ex_if_f rfl (decide_eq_false c12) ?_
      refine ex_exit (tq_exit ?_)
      obtain rfl := Option.some.inj h
      exact lq_out ⟨⟨rfl, rfl, rfl, rfl, trivial⟩, HS⟩
    refine ex_if_t rfl (decide_eq_true c12) ?_
    refine ex_skip (nx ?_)
    refine ex_seq ?_
    refine ex_block ?_
    refine ex_seq ?_
    refine ex_region ?_
    refine ro_lt (r_mv (v := v_a) rfl) rfl ?_
    refine ro_lt (r_mv (v := iv i_10) rfl) rfl ?_
    replace h := grd_some h; obtain ⟨g13, h⟩ := h
    obtain ⟨_, q14, l15⟩ := r_a.idx g13.1 g13.2
    obtain ⟨v16, v18, rfl, r17, r19⟩ := rd_K123 q14
    refine ro_lt (r_ia (r_a.sub HS.sub) sl41 g13.1 g13.2 rfl rfl) rfl ?_
    refine ro_lt (r_lda (l15.sub HS.sub) ag123 rfl rfl) rfl ?_
    refine ro_lt (r_mv (v := iv left_9) rfl) rfl ?_
    replace h := bind_some h; obtain ⟨y20, e21, h⟩ := h
    refine ro_hy (o_cf (vs := [.agg #[v16, v18, iv ((((a.getD i_10.toNat (([] : List Int), ([] : List Int), 0, 0)).2).2).1), iv ((((a.getD i_10.toNat (([] : List Int), ([] : List Int), 0, 0)).2).2).2)], iv left_9]) HS rfl (c_laws_szNode (r17.sub HS.sub) (r19.sub HS.sub) e21) cf118 rfl) rfl ?_
    rintro _ w22 ⟨rfl, hb, HS⟩
    refine ro_lt (r_as (v := iv y20) rfl) rfl ?_
    refine RO.nil (nx ?_)
    refine ex_seq ?_
    refine ex_region ?_
    refine ro_lt (r_mv (v := iv y20) rfl) rfl ?_
    refine ro_lt (r_lss rfl rfl) rfl ?_
    refine RO.nil (nx ?_)
    replace h := ite_some h; rcases h with ⟨c23, h⟩ | ⟨c23, h⟩
    · refine ex_if_t rfl (decide_eq_true c23) ?_
      refine ex_seq ?_
      refine ex_region ?_
      refine ro_lt (r_as (v := iv ((-1))) rfl) rfl ?_
      refine RO.nil (nx ?_)
      obtain rfl := Option.some.inj h
      refine ex_ret (blk_ret (tq_ret (lq_ret ?_)))
      exact ret1 (.inr rfl) rfl rfl (P1.of_flat HS hs rfl)
    refine ex_if_f rfl (decide_eq_false c23) ?_
    refine ex_skip (blk_nx (nx ?_))
    refine ex_region ?_
    refine ro_lt (r_mv (v := iv i_10) rfl) rfl ?_
    refine ro_lt (r_addw rfl rfl) rfl ?_
    refine ro_lt (r_as (v := iv (wi (i_10 + 1))) rfl) rfl ?_
    refine RO.nil ?_
    obtain rfl := Option.some.inj h
    exact lq_go ⟨⟨rfl, rfl, rfl, rfl, trivial⟩, HS⟩
  rcases y24 with r28 | y24
  · intro s' w' hR
    obtain rfl := Option.some.inj h
    exact (tq_ret hR)
  rintro s' w26 ⟨hs_, HS⟩
  rw [has_put hs_]; clear hs_
  refine (nx ?_)
  refine ex_seq ?_
  refine ex_region ?_
  refine ro_lt (r_mv (v := iv y24.1) rfl) rfl ?_
  refine ro_lt (r_as (v := iv y24.1) rfl) rfl ?_
  refine RO.nil (nx ?_)
  obtain rfl := Option.some.inj h
  refine ex_ret ?_
  exact ret1 (.inr rfl) rfl rfl (P1.of_flat HS hs rfl)
theorem c_laws_szStructure {w : World} {a : (List (List Int × List Int × Int × Int)) × List Int} {v_a0 : Value} {v_a1 : Value} {left : Int} (r_a0 : Rd (.sl 123 (.prod (.sl 3 (.int .i64)) (.prod (.sl 3 (.int .i64)) (.prod (.int .i64) (.int .i64))))) (hp w) a.1 [v_a0]) (r_a1 : Rd (.sl 3 (.int .i64)) (hp w) a.2 [v_a1]) {r : Int} (h : F_laws_szStructure a left = some r) : Calls Try.prog 22 [.agg #[v_a0, v_a1], iv left].toArray w (P1 (.int .i64) w r) := by
  unfold F_laws_szStructure at h
  have HS := St.init w
  have hs := Sub.refl (hp w)
  refine calls_ex (n := 18) Try.func22 rfl Try.ntmps22 (Nat.le_of_ble_eq_true rfl) ?_
  refine ex_seq ?_
  refine ex_region ?_
  refine ro_hy (o_boxz HS (cs := [v_a0, v_a1]) rfl rfl) rfl ?_
  rintro _ w2 ⟨g1, H5, rfl, q3, l4, hb, HS⟩
  replace r_a0 := r_a0.sub q3
  replace r_a1 := r_a1.sub q3
  replace hs := hs.trans q3
  refine ro_lt (r_as (v := iv 0) rfl) rfl ?_
  refine RO.nil (nx ?_)
  refine ex_seq ?_
  refine ex_region ?_
  refine ro_lt (r_fa (l4.sub HS.sub) fd43_0 rfl) rfl ?_
  refine ro_lt (r_ld ((l4.seg 0 1).sub HS.sub) sc41 rfl) rfl ?_
  refine ro_lt (r_mv (v := iv left) rfl) rfl ?_
  replace h := bind_some h; obtain ⟨y6, e7, h⟩ := h
  refine ro_hy (o_cf (vs := [v_a0, iv left]) HS rfl (c_laws_szNodeS (r_a0.sub HS.sub) e7) cf68 rfl) rfl ?_
  rintro _ w8 ⟨rfl, hb, HS⟩
  refine ro_lt (r_as (v := iv y6) rfl) rfl ?_
  refine RO.nil (nx ?_)
  refine ex_seq ?_
  refine ex_seq ?_
  refine ex_region ?_
  refine ro_lt (r_mv (v := iv y6) rfl) rfl ?_
  refine ro_lt (r_lss rfl rfl) rfl ?_
  refine RO.nil (nx ?_)
  replace h := ite_some h; rcases h with ⟨c9, h⟩ | ⟨c9, h⟩
  · refine ex_if_t rfl (decide_eq_true c9) ?_
    refine ex_seq ?_
    refine ex_region ?_
    refine ro_lt (r_as (v := iv ((-1))) rfl) rfl ?_
    refine RO.nil (nx ?_)
    obtain rfl := Option.some.inj h
    refine ex_ret (tq_ret ?_)
    exact ret1 (.inr rfl) rfl rfl (P1.of_flat HS hs rfl)
  refine ex_if_f rfl (decide_eq_false c9) ?_
  refine ex_skip (nx ?_)
  refine ex_seq ?_
  refine ex_region ?_
  refine ro_lt (r_fa (l4.sub HS.sub) fd43_1 rfl) rfl ?_
  refine ro_lt (r_ld ((l4.seg 1 1).sub HS.sub) sc25 rfl) rfl ?_
  refine ro_lt (r_mv (v := iv y6) rfl) rfl ?_
  replace h := bind_some h; obtain ⟨y10, e11, h⟩ := h
  refine ro_hy (o_cf (vs := [v_a1, iv y6]) HS rfl (c_laws_szIntS (r_a1.sub HS.sub) e11) cf69 rfl) rfl ?_
  rintro _ w12 ⟨rfl, hb, HS⟩
  refine ro_lt (r_as (v := iv y10) rfl) rfl ?_
  refine RO.nil (nx ?_)
  refine ex_seq ?_
  refine ex_seq ?_
  refine ex_region ?_
  refine ro_lt (r_mv (v := iv y10) rfl) rfl ?_
  refine ro_lt (r_lss rfl rfl) rfl ?_
  refine RO.nil (nx ?_)
  replace h := ite_some h; rcases h with ⟨c13, h⟩ | ⟨c13, h⟩
  · refine ex_if_t rfl (decide_eq_true c13) ?_
    refine ex_seq ?_
    refine ex_region ?_
    refine ro_lt (r_as (v := iv ((-1))) rfl) rfl ?_
    refine RO.nil (nx ?_)
    obtain rfl := Option.some.inj h
    refine ex_ret (tq_ret ?_)
    exact ret1 (.inr rfl) rfl rfl (P1.of_flat HS hs rfl)
  refine ex_if_f rfl (decide_eq_false c13) ?_
  refine ex_skip (nx ?_)
  refine ex_seq ?_
  refine ex_region ?_
  refine ro_lt (r_mv (v := iv y10) rfl) rfl ?_
  refine ro_lt (r_as (v := iv y10) rfl) rfl ?_
  refine RO.nil (nx ?_)
  obtain rfl := Option.some.inj h
  refine ex_ret ?_
  exact ret1 (.inr rfl) rfl rfl (P1.of_flat HS hs rfl)
theorem c_spec_l7Same {w : World} {a : List Int} {v_a : Value} {b : List Int} {v_b : Value} (r_a : Rd (.sl 3 (.int .i64)) (hp w) a [v_a]) (r_b : Rd (.sl 3 (.int .i64)) (hp w) b [v_b]) {r : Bool} (h : F_spec_l7Same a b = some r) : Calls Try.prog 60 [v_a, v_b].toArray w (P1 .bool w r) := by
  unfold F_spec_l7Same at h
  have HS := St.init w
  have hs := Sub.refl (hp w)
  refine calls_ex (n := 26) Try.func60 rfl Try.ntmps60 (Nat.le_of_ble_eq_true rfl) ?_
  refine ex_seq ?_
  refine ex_region ?_
  refine ro_lt (r_as (v := .bool false) rfl) rfl ?_
  refine RO.nil (nx ?_)
  refine ex_seq ?_
  refine ex_seq ?_
  refine ex_region ?_
  refine ro_lt (r_mv (v := v_a) rfl) rfl ?_
  have b1 := (r_a.sub HS.sub).big
  refine ro_lt (r_len (n := 1) (r_a.sub HS.sub) sl25 rfl) rfl ?_
  refine ro_lt (r_mv (v := v_b) rfl) rfl ?_
  have b2 := (r_b.sub HS.sub).big
  refine ro_lt (r_len (n := 1) (r_b.sub HS.sub) sl25 rfl) rfl ?_
  refine ro_lt (r_neq rfl rfl) rfl ?_
  refine RO.nil (nx ?_)
  replace h := ite_some h; rcases h with ⟨c3, h⟩ | ⟨c3, h⟩
  rotate_left
  · refine ex_if_t rfl (congrArg (!·) (decide_eq_false c3)) ?_
    refine ex_seq ?_
    refine ex_region ?_
    refine ro_lt (r_as (v := .bool false) rfl) rfl ?_
    refine RO.nil (nx ?_)
    obtain rfl := Option.some.inj h
    refine ex_ret (tq_ret ?_)
    exact ret1 (.inr rfl) rfl rfl (P1.of_flat HS hs rfl)
  refine ex_if_f rfl (congrArg (!·) (decide_eq_true c3)) ?_
  refine ex_skip (nx ?_)
  refine ex_seq ?_
  refine ex_seq ?_
  refine ex_region ?_
  refine ro_lt (r_as (v := iv 0) rfl) rfl ?_
  refine RO.nil (nx ?_)
  replace h := bind_some h; obtain ⟨y16, e17, h⟩ := h
  refine ex_lbr (fun (st : Int) s' w' => Has s' [(0, v_a), (1, v_b), (4, .bool false), (5, iv st)] ∧ St w (hp w) w' []) (fun r s' w' => FQ Try.prog Try.f60 26 (P1 .bool w r) .ret s' w') e17 ⟨⟨rfl, rfl, rfl, rfl, trivial⟩, HS⟩ ?_ ?_
  · rintro k_9 c' s' w10 ⟨hs_, HS⟩ h
    rw [has_put hs_]; clear hs_
    replace h : F_spec_l7Same_b1 a b k_9 = some c' := h
    unfold F_spec_l7Same_b1 at h
    refine ex_seq ?_
    refine ex_seq ?_
    refine ex_region ?_
    refine ro_lt (r_mv (v := iv k_9) rfl) rfl ?_
    refine ro_lt (r_mv (v := v_a) rfl) rfl ?_
    refine ro_lt (r_len (n := 1) (r_a.sub HS.sub) sl25 rfl) rfl ?_
    refine ro_lt (r_lss rfl rfl) rfl ?_
    refine RO.nil (nx ?_)
    replace h := ite_some h; rcases h with ⟨c11, h⟩ | ⟨c11, h⟩
    rotate_left
    · refine ex_if_f rfl (decide_eq_false c11) ?_
      refine ex_exit (tq_exit ?_)
      obtain rfl := Option.some.inj h
      exact lq_out ⟨⟨rfl, rfl, rfl, rfl, trivial⟩, HS⟩
    refine ex_if_t rfl (decide_eq_true c11) ?_
    refine ex_skip (nx ?_)
    refine ex_seq ?_
    refine ex_block ?_
    refine ex_seq ?_
    refine ex_dr (Mm (hp w) []) (fun _ => True) [0, 0, 3, 7, 0, 0, 48, 112, 255] [] (.op 0 (.op 1 (.op 2 (.op 3 (.op 4 (.op 5 (.op 6 (.op 7 (.op 8 .nil))))))))) mix (by kernel_rfl) (by kernel_rfl) ?_
    intro w12 hw hb; have HS := HS.ext hb; clear hw hb
    refine RT.lt rfl rfl rfl rfl (fun w' k => r_mv (v := v_a) rfl) ?_
    refine RT.lt rfl rfl rfl rfl (fun w' k => r_mv (v := iv k_9) rfl) ?_
    replace h := grd_some h; obtain ⟨g13, h⟩ := h
    refine RT.lt rfl rfl rfl rfl (fun w' k => r_ia (r_a.sub HS.sub) sl25 g13.1 g13.2 rfl rfl) ?_
    refine RT.lt rfl rfl rfl rfl (fun w' k => r_ld ((r_a.int g13.1 g13.2).kp HS.sub k.kp (mh rfl)) sc3 rfl) ?_
    refine RT.lt rfl rfl rfl rfl (fun w' k => r_mv (v := v_b) rfl) ?_
    refine RT.lt rfl rfl rfl rfl (fun w' k => r_mv (v := iv k_9) rfl) ?_
    replace h := grd_some h; obtain ⟨g14, h⟩ := h
    refine RT.lt rfl rfl rfl rfl (fun w' k => r_ia (r_b.sub HS.sub) sl25 g14.1 g14.2 rfl rfl) ?_
    refine RT.lt rfl rfl rfl rfl (fun w' k => r_ld ((r_b.int g14.1 g14.2).kp HS.sub k.kp (mh rfl)) sc3 rfl) ?_
    refine RT.lt rfl rfl rfl rfl (fun w' k => r_neq rfl rfl) ?_
    refine RT.nil (nx ?_)
    replace h := ite_some h; rcases h with ⟨c15, h⟩ | ⟨c15, h⟩
    rotate_left
    · refine ex_if_t rfl (congrArg (!·) (decide_eq_false c15)) ?_
      refine ex_seq ?_
      refine ex_region ?_
      refine ro_lt (r_as (v := .bool false) rfl) rfl ?_
      refine RO.nil (nx ?_)
      obtain rfl := Option.some.inj h
      refine ex_ret (blk_ret (tq_ret (lq_ret ?_)))
      exact ret1 (.inr rfl) rfl rfl (P1.of_flat HS hs rfl)
    refine ex_if_f rfl (congrArg (!·) (decide_eq_true c15)) ?_
    refine ex_skip (blk_nx (nx ?_))
    refine ex_region ?_
    refine ro_lt (r_mv (v := iv k_9) rfl) rfl ?_
    refine ro_lt (r_addw rfl rfl) rfl ?_
    refine ro_lt (r_as (v := iv (wi (k_9 + 1))) rfl) rfl ?_
    refine RO.nil ?_
    obtain rfl := Option.some.inj h
    exact lq_go ⟨⟨rfl, rfl, rfl, rfl, trivial⟩, HS⟩
  rcases y16 with r20 | y16
  · intro s' w' hR
    obtain rfl := Option.some.inj h
    exact (tq_ret hR)
  rintro s' w18 ⟨hs_, HS⟩
  rw [has_put hs_]; clear hs_
  refine (nx ?_)
  refine ex_seq ?_
  refine ex_region ?_
  refine ro_lt (r_as (v := .bool true) rfl) rfl ?_
  refine RO.nil (nx ?_)
  obtain rfl := Option.some.inj h
  refine ex_ret ?_
  exact ret1 (.inr rfl) rfl rfl (P1.of_flat HS hs rfl)
theorem c_spec_l12SameNode {w : World} {a : List Int × List Int × Int × Int} {v_a0 : Value} {v_a1 : Value} {b : List Int × List Int × Int × Int} {v_b0 : Value} {v_b1 : Value} (r_a0 : Rd (.sl 3 (.int .i64)) (hp w) a.1 [v_a0]) (r_a1 : Rd (.sl 3 (.int .i64)) (hp w) a.2.1 [v_a1]) (r_b0 : Rd (.sl 3 (.int .i64)) (hp w) b.1 [v_b0]) (r_b1 : Rd (.sl 3 (.int .i64)) (hp w) b.2.1 [v_b1]) {r : Bool} (h : F_spec_l12SameNode a b = some r) : Calls Try.prog 61 [.agg #[v_a0, v_a1, iv a.2.2.1, iv a.2.2.2], .agg #[v_b0, v_b1, iv b.2.2.1, iv b.2.2.2]].toArray w (P1 .bool w r) := by
  unfold F_spec_l12SameNode at h
  have HS := St.init w
  have hs := Sub.refl (hp w)
  refine calls_ex (n := 31) Try.func61 rfl Try.ntmps61 (Nat.le_of_ble_eq_true rfl) ?_
  refine ex_seq ?_
  refine ex_region ?_
  refine ro_hy (o_boxz HS (cs := [v_a0, v_a1, iv a.2.2.1, iv a.2.2.2]) rfl rfl) rfl ?_
  rintro _ w2 ⟨g1, H5, rfl, q3, l4, hb, HS⟩
  replace r_a0 := r_a0.sub q3
  replace r_a1 := r_a1.sub q3
  replace r_b0 := r_b0.sub q3
  replace r_b1 := r_b1.sub q3
  replace hs := hs.trans q3
  refine ro_hy (o_boxz HS (cs := [v_b0, v_b1, iv b.2.2.1, iv b.2.2.2]) rfl rfl) rfl ?_
  rintro _ w7 ⟨g6, H10, rfl, q8, l9, hb, HS⟩
  replace r_a0 := r_a0.sub q8
  replace r_a1 := r_a1.sub q8
  replace r_b0 := r_b0.sub q8
  replace r_b1 := r_b1.sub q8
  replace l4 := l4.sub q8
  replace hs := hs.trans q8
  refine ro_lt (r_as (v := .bool false) rfl) rfl ?_
  refine RO.nil (nx ?_)
  refine ex_seq ?_
  refine ex_region ?_
  refine ro_lt (r_fa (l4.sub HS.sub) fd72_0 rfl) rfl ?_
  refine ro_lt (r_ld ((l4.seg 0 1).sub HS.sub) sc25 rfl) rfl ?_
  refine ro_lt (r_fa (l9.sub HS.sub) fd72_0 rfl) rfl ?_
  refine ro_lt (r_ld ((l9.seg 0 1).sub HS.sub) sc25 rfl) rfl ?_
  replace h := bind_some h; obtain ⟨y11, e12, h⟩ := h
  refine ro_hy (o_cf (vs := [v_a0, v_b0]) HS rfl (c_spec_l7Same (r_a0.sub HS.sub) (r_b0.sub HS.sub) e12) cf60 rfl) rfl ?_
  rintro _ w13 ⟨rfl, hb, HS⟩
  refine ro_lt (r_mv (v := .bool y11) rfl) rfl ?_
  replace h := ite_some h; rcases h with ⟨c14, h⟩ | ⟨c14, h⟩
  rotate_left
  · refine ro_off (sb (bf c14)) rfl rfl ?_
    refine ro_off (sb (bf c14)) rfl rfl ?_
    refine ro_off (sb (bf c14)) rfl rfl ?_
    refine ro_off (sb (bf c14)) rfl rfl ?_
    refine ro_off (sb (bf c14)) rfl rfl ?_
    refine ro_lt (r_pickf (v := .bool false) (bf c14) rfl rfl) rfl ?_
    refine ro_lt (r_mv (v := .bool false) rfl) rfl ?_
    refine ro_off (sb (rfl)) rfl rfl ?_
    refine ro_off (sb (rfl)) rfl rfl ?_
    refine ro_off (sb (rfl)) rfl rfl ?_
    refine ro_off (sb (rfl)) rfl rfl ?_
    refine ro_off (sb (rfl)) rfl rfl ?_
    refine ro_lt (r_pickf (v := .bool false) (rfl) rfl rfl) rfl ?_
    refine ro_lt (r_mv (v := .bool false) rfl) rfl ?_
    refine ro_off (sb (rfl)) rfl rfl ?_
    refine ro_off (sb (rfl)) rfl rfl ?_
    refine ro_off (sb (rfl)) rfl rfl ?_
    refine ro_off (sb (rfl)) rfl rfl ?_
    refine ro_off (sb (rfl)) rfl rfl ?_
    refine ro_lt (r_pickf (v := .bool false) (rfl) rfl rfl) rfl ?_
    refine ro_lt (r_as (v := .bool false) rfl) rfl ?_
    refine RO.nil (nx ?_)
    obtain rfl := Option.some.inj h
    refine ex_ret ?_
    exact ret1 (.inr rfl) rfl rfl (P1.of_flat HS hs rfl)
  refine ro_on (sb (c14)) ?_
  refine ro_lt (r_fa (l4.sub HS.sub) fd72_1 rfl) rfl ?_
  refine ro_on (sb (c14)) ?_
  refine ro_lt (r_ld ((l4.seg 1 1).sub HS.sub) sc25 rfl) rfl ?_
  refine ro_on (sb (c14)) ?_
  refine ro_lt (r_fa (l9.sub HS.sub) fd72_1 rfl) rfl ?_
  refine ro_on (sb (c14)) ?_
  refine ro_lt (r_ld ((l9.seg 1 1).sub HS.sub) sc25 rfl) rfl ?_
  replace h := bind_some h; obtain ⟨y15, e16, h⟩ := h
  refine ro_on (sb (c14)) ?_
  refine ro_hy (o_cf (vs := [v_a1, v_b1]) HS rfl (c_spec_l7Same (r_a1.sub HS.sub) (r_b1.sub HS.sub) e16) cf60 rfl) rfl ?_
  rintro _ w17 ⟨rfl, hb, HS⟩
  refine ro_lt (r_pickt (v := .bool y15) (c14) rfl rfl) rfl ?_
  refine ro_lt (r_mv (v := .bool y15) rfl) rfl ?_
  replace h := ite_some h; rcases h with ⟨c18, h⟩ | ⟨c18, h⟩
  rotate_left
  · refine ro_off (sb (bf c18)) rfl rfl ?_
    refine ro_off (sb (bf c18)) rfl rfl ?_
    refine ro_off (sb (bf c18)) rfl rfl ?_
    refine ro_off (sb (bf c18)) rfl rfl ?_
    refine ro_off (sb (bf c18)) rfl rfl ?_
    refine ro_lt (r_pickf (v := .bool false) (bf c18) rfl rfl) rfl ?_
    refine ro_lt (r_mv (v := .bool false) rfl) rfl ?_
    refine ro_off (sb (rfl)) rfl rfl ?_
    refine ro_off (sb (rfl)) rfl rfl ?_
    refine ro_off (sb (rfl)) rfl rfl ?_
    refine ro_off (sb (rfl)) rfl rfl ?_
    refine ro_off (sb (rfl)) rfl rfl ?_
    refine ro_lt (r_pickf (v := .bool false) (rfl) rfl rfl) rfl ?_
    refine ro_lt (r_as (v := .bool false) rfl) rfl ?_
    refine RO.nil (nx ?_)
    obtain rfl := Option.some.inj h
    refine ex_ret ?_
    exact ret1 (.inr rfl) rfl rfl (P1.of_flat HS hs rfl)
  refine ro_on (sb (c18)) ?_
  refine ro_lt (r_fa (l4.sub HS.sub) fd72_2 rfl) rfl ?_
  refine ro_on (sb (c18)) ?_
  refine ro_lt (r_ld ((l4.seg 2 1).sub HS.sub) sc3 rfl) rfl ?_
  refine ro_on (sb (c18)) ?_
  refine ro_lt (r_fa (l9.sub HS.sub) fd72_2 rfl) rfl ?_
  refine ro_on (sb (c18)) ?_
  refine ro_lt (r_ld ((l9.seg 2 1).sub HS.sub) sc3 rfl) rfl ?_
  refine ro_on (sb (c18)) ?_
  refine ro_lt (r_eql rfl rfl) rfl ?_
  refine ro_lt (r_pickt (v := .bool ((decide (a.2.2.1 = b.2.2.1)))) (c18) rfl rfl) rfl ?_
  refine ro_lt (r_mv (v := .bool ((decide (a.2.2.1 = b.2.2.1)))) rfl) rfl ?_
  replace h := ite_some h; rcases h with ⟨c19, h⟩ | ⟨c19, h⟩
  rotate_left
  · refine ro_off (sb (decide_eq_false c19)) rfl rfl ?_
    refine ro_off (sb (decide_eq_false c19)) rfl rfl ?_
    refine ro_off (sb (decide_eq_false c19)) rfl rfl ?_
    refine ro_off (sb (decide_eq_false c19)) rfl rfl ?_
    refine ro_off (sb (decide_eq_false c19)) rfl rfl ?_
    refine ro_lt (r_pickf (v := .bool false) (decide_eq_false c19) rfl rfl) rfl ?_
    refine ro_lt (r_as (v := .bool false) rfl) rfl ?_
    refine RO.nil (nx ?_)
    obtain rfl := Option.some.inj h
    refine ex_ret ?_
    exact ret1 (.inr rfl) rfl rfl (P1.of_flat HS hs rfl)
  refine ro_on (sb (decide_eq_true c19)) ?_
  refine ro_lt (r_fa (l4.sub HS.sub) fd72_3 rfl) rfl ?_
  refine ro_on (sb (decide_eq_true c19)) ?_
  refine ro_lt (r_ld ((l4.seg 3 1).sub HS.sub) sc3 rfl) rfl ?_
  refine ro_on (sb (decide_eq_true c19)) ?_
  refine ro_lt (r_fa (l9.sub HS.sub) fd72_3 rfl) rfl ?_
  refine ro_on (sb (decide_eq_true c19)) ?_
  refine ro_lt (r_ld ((l9.seg 3 1).sub HS.sub) sc3 rfl) rfl ?_
  refine ro_on (sb (decide_eq_true c19)) ?_
  refine ro_lt (r_eql rfl rfl) rfl ?_
  refine ro_lt (r_pickt (v := .bool ((decide (a.2.2.2 = b.2.2.2)))) (decide_eq_true c19) rfl rfl) rfl ?_
  refine ro_lt (r_as (v := .bool ((decide (a.2.2.2 = b.2.2.2)))) rfl) rfl ?_
  refine RO.nil (nx ?_)
  obtain rfl := Option.some.inj h
  refine ex_ret ?_
  exact ret1 (.inr rfl) rfl rfl (P1.of_flat HS hs rfl)
theorem c_spec_EqualStructure {w : World} {a : (List (List Int × List Int × Int × Int)) × List Int} {v_a0 : Value} {v_a1 : Value} {b : (List (List Int × List Int × Int × Int)) × List Int} {v_b0 : Value} {v_b1 : Value} (r_a0 : Rd (.sl 72 (.prod (.sl 3 (.int .i64)) (.prod (.sl 3 (.int .i64)) (.prod (.int .i64) (.int .i64))))) (hp w) a.1 [v_a0]) (r_a1 : Rd (.sl 3 (.int .i64)) (hp w) a.2 [v_a1]) (r_b0 : Rd (.sl 72 (.prod (.sl 3 (.int .i64)) (.prod (.sl 3 (.int .i64)) (.prod (.int .i64) (.int .i64))))) (hp w) b.1 [v_b0]) (r_b1 : Rd (.sl 3 (.int .i64)) (hp w) b.2 [v_b1]) {r : Bool} (h : F_spec_EqualStructure a b = some r) : Calls Try.prog 16 [.agg #[v_a0, v_a1], .agg #[v_b0, v_b1]].toArray w (P1 .bool w r) := by
  unfold F_spec_EqualStructure at h
  have HS := St.init w
  have hs := Sub.refl (hp w)
  refine calls_ex (n := 40) Try.func16 rfl Try.ntmps16 (Nat.le_of_ble_eq_true rfl) ?_
  refine ex_seq ?_
  refine ex_region ?_
  refine ro_hy (o_boxz HS (cs := [v_a0, v_a1]) rfl rfl) rfl ?_
  rintro _ w2 ⟨g1, H5, rfl, q3, l4, hb, HS⟩
  replace r_a0 := r_a0.sub q3
  replace r_a1 := r_a1.sub q3
  replace r_b0 := r_b0.sub q3
  replace r_b1 := r_b1.sub q3
  replace hs := hs.trans q3
  refine ro_hy (o_boxz HS (cs := [v_b0, v_b1]) rfl rfl) rfl ?_
  rintro _ w7 ⟨g6, H10, rfl, q8, l9, hb, HS⟩
  replace r_a0 := r_a0.sub q8
  replace r_a1 := r_a1.sub q8
  replace r_b0 := r_b0.sub q8
  replace r_b1 := r_b1.sub q8
  replace l4 := l4.sub q8
  replace hs := hs.trans q8
  refine ro_lt (r_as (v := .bool false) rfl) rfl ?_
  refine RO.nil (nx ?_)
  refine ex_seq ?_
  refine ex_seq ?_
  refine ex_region ?_
  refine ro_lt (r_fa (l4.sub HS.sub) fd27_0 rfl) rfl ?_
  refine ro_lt (r_ld ((l4.seg 0 1).sub HS.sub) sc24 rfl) rfl ?_
  have b11 := (r_a0.sub HS.sub).big
  refine ro_lt (r_len (n := 4) (r_a0.sub HS.sub) sl24 rfl) rfl ?_
  refine ro_lt (r_fa (l9.sub HS.sub) fd27_0 rfl) rfl ?_
  refine ro_lt (r_ld ((l9.seg 0 1).sub HS.sub) sc24 rfl) rfl ?_
  have b12 := (r_b0.sub HS.sub).big
  refine ro_lt (r_len (n := 4) (r_b0.sub HS.sub) sl24 rfl) rfl ?_
  refine ro_lt (r_neq rfl rfl) rfl ?_
  refine ro_lt (r_mv (v := .bool ((!(decide ((a.1.length : Int) = (b.1.length : Int)))))) rfl) rfl ?_
  replace h := ite_some h; rcases h with ⟨c13, h⟩ | ⟨c13, h⟩
  rotate_left
  · refine ro_off (sb (congrArg (!·) (decide_eq_false c13))) rfl rfl ?_
    refine ro_off (sb (congrArg (!·) (decide_eq_false c13))) rfl rfl ?_
    refine ro_off (sb (congrArg (!·) (decide_eq_false c13))) rfl rfl ?_
    refine ro_off (sb (congrArg (!·) (decide_eq_false c13))) rfl rfl ?_
    refine ro_off (sb (congrArg (!·) (decide_eq_false c13))) rfl rfl ?_
    refine ro_off (sb (congrArg (!·) (decide_eq_false c13))) rfl rfl ?_
    refine ro_lt (r_pickt (v := .bool true) (congrArg (!·) (decide_eq_false c13)) rfl rfl) rfl ?_
    refine RO.nil (nx ?_)
    refine ex_if_t rfl (rfl) ?_
    refine ex_seq ?_
    refine ex_region ?_
    refine ro_lt (r_as (v := .bool false) rfl) rfl ?_
    refine RO.nil (nx ?_)
    obtain rfl := Option.some.inj h
    refine ex_ret (tq_ret ?_)
    exact ret1 (.inr rfl) rfl rfl (P1.of_flat HS hs rfl)
  refine ro_on (sb (congrArg (!·) (decide_eq_true c13))) ?_
  refine ro_lt (r_fa (l4.sub HS.sub) fd27_1 rfl) rfl ?_
  refine ro_on (sb (congrArg (!·) (decide_eq_true c13))) ?_
  refine ro_lt (r_ld ((l4.seg 1 1).sub HS.sub) sc25 rfl) rfl ?_
  refine ro_on (sb (congrArg (!·) (decide_eq_true c13))) ?_
  refine ro_lt (r_fa (l9.sub HS.sub) fd27_1 rfl) rfl ?_
  refine ro_on (sb (congrArg (!·) (decide_eq_true c13))) ?_
  refine ro_lt (r_ld ((l9.seg 1 1).sub HS.sub) sc25 rfl) rfl ?_
  replace h := bind_some h; obtain ⟨y14, e15, h⟩ := h
  refine ro_on (sb (congrArg (!·) (decide_eq_true c13))) ?_
  refine ro_hy (o_cf (vs := [v_a1, v_b1]) HS rfl (c_spec_l7Same (r_a1.sub HS.sub) (r_b1.sub HS.sub) e15) cf60 rfl) rfl ?_
  rintro _ w16 ⟨rfl, hb, HS⟩
  refine ro_on (sb (congrArg (!·) (decide_eq_true c13))) ?_
  refine ro_lt (r_not rfl) rfl ?_
  refine ro_lt (r_pickf (v := .bool ((!y14))) (congrArg (!·) (decide_eq_true c13)) rfl rfl) rfl ?_
  refine RO.nil (nx ?_)
  replace h := ite_some h; rcases h with ⟨c17, h⟩ | ⟨c17, h⟩
  rotate_left
  · refine ex_if_t rfl (congrArg (!·) (bf c17)) ?_
    refine ex_seq ?_
    refine ex_region ?_
    refine ro_lt (r_as (v := .bool false) rfl) rfl ?_
    refine RO.nil (nx ?_)
    obtain rfl := Option.some.inj h
    refine ex_ret (tq_ret ?_)
    exact ret1 (.inr rfl) rfl rfl (P1.of_flat HS hs rfl)
  refine ex_if_f rfl (congrArg (!·) (c17)) ?_
  refine ex_skip (nx ?_)
  refine ex_seq ?_
  refine ex_seq ?_
  refine ex_region ?_
  refine ro_lt (r_as (v := iv 0) rfl) rfl ?_
  refine RO.nil (nx ?_)
  replace h := bind_some h; obtain ⟨y45, e46, h⟩ := h
  refine ex_lbr (fun (st : Int) s' w' => Has s' [(2, .pointer (some ⟨g1, 0, none⟩)), (3, .pointer (some ⟨g6, 0, none⟩)), (4, .bool false), (5, iv st)] ∧ St w H10 w' []) (fun r s' w' => FQ Try.prog Try.f16 40 (P1 .bool w r) .ret s' w') e46 ⟨⟨rfl, rfl, rfl, rfl, trivial⟩, HS⟩ ?_ ?_
  · rintro k_23 c' s' w24 ⟨hs_, HS⟩ h
    rw [has_put hs_]; clear hs_
    replace h : F_spec_EqualStructure_b1 a b k_23 = some c' := h
    unfold F_spec_EqualStructure_b1 at h
    refine ex_seq ?_
    refine ex_seq ?_
    refine ex_region ?_
    refine ro_lt (r_mv (v := iv k_23) rfl) rfl ?_
    refine ro_lt (r_fa (l4.sub HS.sub) fd27_0 rfl) rfl ?_
    refine ro_lt (r_ld ((l4.seg 0 1).sub HS.sub) sc24 rfl) rfl ?_
    refine ro_lt (r_len (n := 4) (r_a0.sub HS.sub) sl24 rfl) rfl ?_
    refine ro_lt (r_lss rfl rfl) rfl ?_
    refine RO.nil (nx ?_)
    replace h := ite_some h; rcases h with ⟨c25, h⟩ | ⟨c25, h⟩
    rotate_left
    · refine ex_if_f rfl (decide_eq_false c25) ?_
      refine ex_exit (tq_exit ?_)
      obtain rfl := Option.some.inj h
      exact lq_out ⟨⟨rfl, rfl, rfl, rfl, trivial⟩, HS⟩
    refine ex_if_t rfl (decide_eq_true c25) ?_
    refine ex_skip (nx ?_)
    refine ex_seq ?_
    refine ex_block ?_
    refine ex_seq ?_
    refine ex_dr (Mm H10 []) (fun _ => True) [0, 1, 0, 7, 15, 0, 32, 0, 224, 480, 1023, 2047] [10] (.op 0 (.op 1 (.op 2 (.op 3 (.op 4 (.op 5 (.op 6 (.op 7 (.op 8 (.op 9 (.op 10 (.op 11 .nil)))))))))))) mix (by kernel_rfl) (by kernel_rfl) ?_
    intro w26 hw hb; have HS := HS.ext hb; clear hw hb
    refine RT.lt rfl rfl rfl rfl (fun w' k => r_fa (l4.sub HS.sub) fd27_0 rfl) ?_
    refine RT.lt rfl rfl rfl rfl (fun w' k => r_ld ((l4.seg 0 1).kp HS.sub k.kp (mh rfl)) sc24 rfl) ?_
    refine RT.lt rfl rfl rfl rfl (fun w' k => r_mv (v := iv k_23) rfl) ?_
    replace h := grd_some h; obtain ⟨g27, h⟩ := h
    obtain ⟨_, q28, l29⟩ := r_a0.idx g27.1 g27.2
    obtain ⟨v30, v32, rfl, r31, r33⟩ := rd_K72 q28
    refine RT.lt rfl rfl rfl rfl (fun w' k => r_ia (r_a0.sub HS.sub) sl24 g27.1 g27.2 rfl rfl) ?_
    refine RT.lt rfl rfl rfl rfl (fun w' k => r_lda (l29.kp HS.sub k.kp (mh rfl)) ag72 rfl rfl) ?_
    refine RT.lt rfl rfl rfl rfl (fun w' k => r_fa (l9.sub HS.sub) fd27_0 rfl) ?_
    refine RT.lt rfl rfl rfl rfl (fun w' k => r_ld ((l9.seg 0 1).kp HS.sub k.kp (mh rfl)) sc24 rfl) ?_
    refine RT.lt rfl rfl rfl rfl (fun w' k => r_mv (v := iv k_23) rfl) ?_
    replace h := grd_some h; obtain ⟨g34, h⟩ := h
    obtain ⟨_, q35, l36⟩ := r_b0.idx g34.1 g34.2
    obtain ⟨v37, v39, rfl, r38, r40⟩ := rd_K72 q35
    refine RT.lt rfl rfl rfl rfl (fun w' k => r_ia (r_b0.sub HS.sub) sl24 g34.1 g34.2 rfl rfl) ?_
    refine RT.lt rfl rfl rfl rfl (fun w' k => r_lda (l36.kp HS.sub k.kp (mh rfl)) ag72 rfl rfl) ?_
    replace h := bind_some h; obtain ⟨y41, e42, h⟩ := h
    refine RT.hy rfl rfl rfl rfl rfl (o_cf (vs := [.agg #[v30, v32, iv ((((a.1.getD k_23.toNat (([] : List Int), ([] : List Int), 0, 0)).2).2).1), iv ((((a.1.getD k_23.toNat (([] : List Int), ([] : List Int), 0, 0)).2).2).2)], .agg #[v37, v39, iv ((((b.1.getD k_23.toNat (([] : List Int), ([] : List Int), 0, 0)).2).2).1), iv ((((b.1.getD k_23.toNat (([] : List Int), ([] : List Int), 0, 0)).2).2).2)]]) HS rfl (c_spec_l12SameNode (r31.sub HS.sub) (r33.sub HS.sub) (r38.sub HS.sub) (r40.sub HS.sub) e42) cf61 rfl) (fun _ _ ⟨_, hb, _⟩ => km_below hb (fun _ => trivial)) ?_
    rintro _ w43 ⟨rfl, hb, HS⟩
    refine RT.lt rfl rfl rfl rfl (fun w' k => r_not rfl) ?_
    refine RT.nil (nx ?_)
    replace h := ite_some h; rcases h with ⟨c44, h⟩ | ⟨c44, h⟩
    rotate_left
    · refine ex_if_t rfl (congrArg (!·) (bf c44)) ?_
      refine ex_seq ?_
      refine ex_region ?_
      refine ro_lt (r_as (v := .bool false) rfl) rfl ?_
      refine RO.nil (nx ?_)
      obtain rfl := Option.some.inj h
      refine ex_ret (blk_ret (tq_ret (lq_ret ?_)))
      exact ret1 (.inr rfl) rfl rfl (P1.of_flat HS hs rfl)
    refine ex_if_f rfl (congrArg (!·) (c44)) ?_
    refine ex_skip (blk_nx (nx ?_))
    refine ex_region ?_
    refine ro_lt (r_mv (v := iv k_23) rfl) rfl ?_
    refine ro_lt (r_addw rfl rfl) rfl ?_
    refine ro_lt (r_as (v := iv (wi (k_23 + 1))) rfl) rfl ?_
    refine RO.nil ?_
    obtain rfl := Option.some.inj h
    exact lq_go ⟨⟨rfl, rfl, rfl, rfl, trivial⟩, HS⟩
  rcases y45 with r49 | y45
  · intro s' w' hR
    obtain rfl := Option.some.inj h
    exact (tq_ret hR)
  rintro s' w47 ⟨hs_, HS⟩
  rw [has_put hs_]; clear hs_
  refine (nx ?_)
  refine ex_seq ?_
  refine ex_region ?_
  refine ro_lt (r_as (v := .bool true) rfl) rfl ?_
  refine RO.nil (nx ?_)
  obtain rfl := Option.some.inj h
  refine ex_ret ?_
  exact ret1 (.inr rfl) rfl rfl (P1.of_flat HS hs rfl)
theorem c_spec_l1In {w : World} {x : Int} {lo : Int} {hi : Int} {r : Bool} (h : F_spec_l1In x lo hi = some r) : Calls Try.prog 64 [iv x, iv lo, iv hi].toArray w (P1 .bool w r) := by
  unfold F_spec_l1In at h
  have HS := St.init w
  have hs := Sub.refl (hp w)
  refine calls_ex (n := 15) Try.func64 rfl Try.ntmps64 (Nat.le_of_ble_eq_true rfl) ?_
  refine ex_seq ?_
  refine ex_region ?_
  refine ro_lt (r_as (v := .bool false) rfl) rfl ?_
  refine RO.nil (nx ?_)
  refine ex_seq ?_
  refine ex_region ?_
  refine ro_lt (r_mv (v := iv x) rfl) rfl ?_
  refine ro_lt (r_mv (v := iv lo) rfl) rfl ?_
  refine ro_lt (r_geq rfl rfl) rfl ?_
  refine ro_lt (r_mv (v := .bool ((decide (x ≥ lo)))) rfl) rfl ?_
  replace h := ite_some h; rcases h with ⟨c1, h⟩ | ⟨c1, h⟩
  rotate_left
  · refine ro_off (sb (decide_eq_false c1)) rfl rfl ?_
    refine ro_off (sb (decide_eq_false c1)) rfl rfl ?_
    refine ro_off (sb (decide_eq_false c1)) rfl rfl ?_
    refine ro_lt (r_pickf (v := .bool false) (decide_eq_false c1) rfl rfl) rfl ?_
    refine ro_lt (r_as (v := .bool false) rfl) rfl ?_
    refine RO.nil (nx ?_)
    obtain rfl := Option.some.inj h
    refine ex_ret ?_
    exact ret1 (.inr rfl) rfl rfl (P1.of_flat HS hs rfl)
  refine ro_on (sb (decide_eq_true c1)) ?_
  refine ro_lt (r_mv (v := iv x) rfl) rfl ?_
  refine ro_on (sb (decide_eq_true c1)) ?_
  refine ro_lt (r_mv (v := iv hi) rfl) rfl ?_
  refine ro_on (sb (decide_eq_true c1)) ?_
  refine ro_lt (r_leq rfl rfl) rfl ?_
  refine ro_lt (r_pickt (v := .bool ((decide (x ≤ hi)))) (decide_eq_true c1) rfl rfl) rfl ?_
  refine ro_lt (r_as (v := .bool ((decide (x ≤ hi)))) rfl) rfl ?_
  refine RO.nil (nx ?_)
  obtain rfl := Option.some.inj h
  refine ex_ret ?_
  exact ret1 (.inr rfl) rfl rfl (P1.of_flat HS hs rfl)
theorem c_spec_IsTruth {w : World} {a : Int} {r : Bool} (h : F_spec_IsTruth a = some r) : Calls Try.prog 63 [iv a].toArray w (P1 .bool w r) := by
  unfold F_spec_IsTruth at h
  have HS := St.init w
  have hs := Sub.refl (hp w)
  refine calls_ex (n := 5) Try.func63 rfl Try.ntmps63 (Nat.le_of_ble_eq_true rfl) ?_
  refine ex_seq ?_
  refine ex_region ?_
  refine ro_lt (r_as (v := .bool false) rfl) rfl ?_
  refine RO.nil (nx ?_)
  refine ex_seq ?_
  refine ex_region ?_
  refine ro_lt (r_mv (v := iv a) rfl) rfl ?_
  replace h := bind_some h; obtain ⟨y1, e2, h⟩ := h
  refine ro_hy (o_cf (vs := [iv a, iv 0, iv 2]) HS rfl (c_spec_l1In e2) cf64 rfl) rfl ?_
  rintro _ w3 ⟨rfl, hb, HS⟩
  refine ro_lt (r_as (v := .bool y1) rfl) rfl ?_
  refine RO.nil (nx ?_)
  obtain rfl := Option.some.inj h
  refine ex_ret ?_
  exact ret1 (.inr rfl) rfl rfl (P1.of_flat HS hs rfl)
theorem c_spec_l12Truths {w : World} {list : List Int} {v_list : Value} (r_list : Rd (.sl 3 (.int .i64)) (hp w) list [v_list]) {r : Bool} (h : F_spec_l12Truths list = some r) : Calls Try.prog 62 [v_list].toArray w (P1 .bool w r) := by
  unfold F_spec_l12Truths at h
  have HS := St.init w
  have hs := Sub.refl (hp w)
  refine calls_ex (n := 16) Try.func62 rfl Try.ntmps62 (Nat.le_of_ble_eq_true rfl) ?_
  refine ex_seq ?_
  refine ex_region ?_
  refine ro_lt (r_as (v := .bool false) rfl) rfl ?_
  refine RO.nil (nx ?_)
  refine ex_seq ?_
  refine ex_seq ?_
  refine ex_region ?_
  refine ro_lt (r_as (v := iv 0) rfl) rfl ?_
  refine RO.nil (nx ?_)
  replace h := bind_some h; obtain ⟨y15, e16, h⟩ := h
  refine ex_lbr (fun (st : Int) s' w' => Has s' [(0, v_list), (2, .bool false), (3, iv st)] ∧ St w (hp w) w' []) (fun r s' w' => FQ Try.prog Try.f62 16 (P1 .bool w r) .ret s' w') e16 ⟨⟨rfl, rfl, rfl, trivial⟩, HS⟩ ?_ ?_
  · rintro k_6 c' s' w7 ⟨hs_, HS⟩ h
    rw [has_put hs_]; clear hs_
    replace h : F_spec_l12Truths_b1 list k_6 = some c' := h
    unfold F_spec_l12Truths_b1 at h
    refine ex_seq ?_
    refine ex_seq ?_
    refine ex_region ?_
    refine ro_lt (r_mv (v := iv k_6) rfl) rfl ?_
    refine ro_lt (r_mv (v := v_list) rfl) rfl ?_
    have b8 := (r_list.sub HS.sub).big
    refine ro_lt (r_len (n := 1) (r_list.sub HS.sub) sl25 rfl) rfl ?_
    refine ro_lt (r_lss rfl rfl) rfl ?_
    refine RO.nil (nx ?_)
    replace h := ite_some h; rcases h with ⟨c9, h⟩ | ⟨c9, h⟩
    rotate_left
    · refine ex_if_f rfl (decide_eq_false c9) ?_
      refine ex_exit (tq_exit ?_)
      obtain rfl := Option.some.inj h
      exact lq_out ⟨⟨rfl, rfl, rfl, trivial⟩, HS⟩
    refine ex_if_t rfl (decide_eq_true c9) ?_
    refine ex_skip (nx ?_)
    refine ex_seq ?_
    refine ex_block ?_
    refine ex_seq ?_
    refine ex_region ?_
    refine ro_lt (r_mv (v := v_list) rfl) rfl ?_
    refine ro_lt (r_mv (v := iv k_6) rfl) rfl ?_
    replace h := grd_some h; obtain ⟨g10, h⟩ := h
    refine ro_lt (r_ia (r_list.sub HS.sub) sl25 g10.1 g10.2 rfl rfl) rfl ?_
    refine ro_lt (r_ld ((r_list.int g10.1 g10.2).sub HS.sub) sc3 rfl) rfl ?_
    replace h := bind_some h; obtain ⟨y11, e12, h⟩ := h
    refine ro_hy (o_cf (vs := [iv (list.getD k_6.toNat 0)]) HS rfl (c_spec_IsTruth e12) cf63 rfl) rfl ?_
    rintro _ w13 ⟨rfl, hb, HS⟩
    refine ro_lt (r_not rfl) rfl ?_
    refine RO.nil (nx ?_)
    replace h := ite_some h; rcases h with ⟨c14, h⟩ | ⟨c14, h⟩
    rotate_left
    · refine ex_if_t rfl (congrArg (!·) (bf c14)) ?_
      refine ex_seq ?_
      refine ex_region ?_
      refine ro_lt (r_as (v := .bool false) rfl) rfl ?_
      refine RO.nil (nx ?_)
      obtain rfl := Option.some.inj h
      refine ex_ret (blk_ret (tq_ret (lq_ret ?_)))
      exact ret1 (.inr rfl) rfl rfl (P1.of_flat HS hs rfl)
    refine ex_if_f rfl (congrArg (!·) (c14)) ?_
    refine ex_skip (blk_nx (nx ?_))
    refine ex_region ?_
    refine ro_lt (r_mv (v := iv k_6) rfl) rfl ?_
    refine ro_lt (r_addw rfl rfl) rfl ?_
    refine ro_lt (r_as (v := iv (wi (k_6 + 1))) rfl) rfl ?_
    refine RO.nil ?_
    obtain rfl := Option.some.inj h
    exact lq_go ⟨⟨rfl, rfl, rfl, trivial⟩, HS⟩
  rcases y15 with r19 | y15
  · intro s' w' hR
    obtain rfl := Option.some.inj h
    exact (tq_ret hR)
  rintro s' w17 ⟨hs_, HS⟩
  rw [has_put hs_]; clear hs_
  refine (nx ?_)
  refine ex_seq ?_
  refine ex_region ?_
  refine ro_lt (r_as (v := .bool true) rfl) rfl ?_
  refine RO.nil (nx ?_)
  obtain rfl := Option.some.inj h
  refine ex_ret ?_
  exact ret1 (.inr rfl) rfl rfl (P1.of_flat HS hs rfl)
theorem c_spec_IsStructure {w : World} {vars : Int} {s : (List (List Int × List Int × Int × Int)) × List Int} {v_s0 : Value} {v_s1 : Value} (r_s0 : Rd (.sl 72 (.prod (.sl 3 (.int .i64)) (.prod (.sl 3 (.int .i64)) (.prod (.int .i64) (.int .i64))))) (hp w) s.1 [v_s0]) (r_s1 : Rd (.sl 3 (.int .i64)) (hp w) s.2 [v_s1]) {r : Bool} (h : F_spec_IsStructure vars s = some r) : Calls Try.prog 17 [iv vars, .agg #[v_s0, v_s1]].toArray w (P1 .bool w r) := by
  unfold F_spec_IsStructure at h
  have HS := St.init w
  have hs := Sub.refl (hp w)
  refine calls_ex (n := 77) Try.func17 rfl Try.ntmps17 (Nat.le_of_ble_eq_true rfl) ?_
  refine ex_seq ?_
  refine ex_region ?_
  refine ro_hy (o_boxz HS (cs := [v_s0, v_s1]) rfl rfl) rfl ?_
  rintro _ w2 ⟨g1, H5, rfl, q3, l4, hb, HS⟩
  replace r_s0 := r_s0.sub q3
  replace r_s1 := r_s1.sub q3
  replace hs := hs.trans q3
  refine ro_lt (r_as (v := .bool false) rfl) rfl ?_
  refine RO.nil (nx ?_)
  refine ex_seq ?_
  refine ex_region ?_
  refine ro_lt (r_fa (l4.sub HS.sub) fd27_0 rfl) rfl ?_
  refine ro_lt (r_ld ((l4.seg 0 1).sub HS.sub) sc24 rfl) rfl ?_
  have b6 := (r_s0.sub HS.sub).big
  refine ro_lt (r_len (n := 4) (r_s0.sub HS.sub) sl24 rfl) rfl ?_
  refine ro_lt (r_as (v := iv ((s.1.length : Int))) rfl) rfl ?_
  refine RO.nil (nx ?_)
  refine ex_seq ?_
  refine ex_seq ?_
  refine ex_region ?_
  refine ro_lt (r_as (v := iv 0) rfl) rfl ?_
  refine RO.nil (nx ?_)
  replace h := bind_some h; obtain ⟨y47, e48, h⟩ := h
  refine ex_lbr (fun (st : Int) s' w' => Has s' [(0, iv vars), (3, .pointer (some ⟨g1, 0, none⟩)), (4, .bool false), (5, iv ((s.1.length : Int))), (6, iv st)] ∧ St w H5 w' []) (fun r s' w' => FQ Try.prog Try.f17 77 (P1 .bool w r) .ret s' w') e48 ⟨⟨rfl, rfl, rfl, rfl, rfl, trivial⟩, HS⟩ ?_ ?_
  · rintro k_12 c' s' w13 ⟨hs_, HS⟩ h
    rw [has_put hs_]; clear hs_
    replace h : F_spec_IsStructure_b1 s vars k_12 = some c' := h
    unfold F_spec_IsStructure_b1 at h
    refine ex_seq ?_
    refine ex_seq ?_
    refine ex_region ?_
    refine ro_lt (r_mv (v := iv k_12) rfl) rfl ?_
    refine ro_lt (r_mv (v := iv ((s.1.length : Int))) rfl) rfl ?_
    refine ro_lt (r_lss rfl rfl) rfl ?_
    refine RO.nil (nx ?_)
    replace h := ite_some h; rcases h with ⟨c14, h⟩ | ⟨c14, h⟩
    rotate_left
    · refine ex_if_f rfl (decide_eq_false c14) ?_
      refine ex_exit (tq_exit ?_)
      obtain rfl := Option.some.inj h
      exact lq_out ⟨⟨rfl, rfl, rfl, rfl, rfl, trivial⟩, HS⟩
    refine ex_if_t rfl (decide_eq_true c14) ?_
    refine ex_skip (nx ?_)
    refine ex_seq ?_
    refine ex_block ?_
    refine ex_seq ?_
    refine ex_region ?_
    refine ro_lt (r_fa (l4.sub HS.sub) fd27_0 rfl) rfl ?_
    refine ro_lt (r_ld ((l4.seg 0 1).sub HS.sub) sc24 rfl) rfl ?_
    refine ro_lt (r_mv (v := iv k_12) rfl) rfl ?_
    replace h := grd_some h; obtain ⟨g15, h⟩ := h
    obtain ⟨_, q16, l17⟩ := r_s0.idx g15.1 g15.2
    obtain ⟨v18, v20, rfl, r19, r21⟩ := rd_K72 q16
    refine ro_lt (r_ia (r_s0.sub HS.sub) sl24 g15.1 g15.2 rfl rfl) rfl ?_
    refine ro_lt (r_lda (l17.sub HS.sub) ag72 rfl rfl) rfl ?_
    refine ro_hy (o_alloc HS (cs := [.slice none 0 0, .slice none 0 0, iv 0, iv 0]) ze72 rfl) rfl ?_
    rintro _ w23 ⟨g22, rfl, hb, HS⟩
    refine ro_hy (o_str (off := 0) (vs := [v18, v20, iv ((((s.1.getD k_12.toNat (([] : List Int), ([] : List Int), 0, 0)).2).2).1), iv ((((s.1.getD k_12.toNat (([] : List Int), ([] : List Int), 0, 0)).2).2).2)]) (l' := [v18, v20, iv ((((s.1.getD k_12.toNat (([] : List Int), ([] : List Int), 0, 0)).2).2).1), iv ((((s.1.getD k_12.toNat (([] : List Int), ([] : List Int), 0, 0)).2).2).2)]) HS rfl rfl rfl st72 rfl rfl (pl (r19.sub HS.sub).pl (pl (r21.sub HS.sub).pl (pl rfl (pl rfl pl0)))) rfl) rfl ?_
    rintro _ w25 ⟨rfl, hk, HS⟩
    refine RO.nil (nx ?_)
    refine ex_seq ?_
    refine ex_region ?_
    refine ro_lt (r_fa (HS.boxAt 0 rfl) fd72_0 rfl) rfl ?_
    refine ro_lt (r_ld ((HS.boxAt 0 rfl).seg 0 1) sc25 rfl) rfl ?_
    have b27 := (r19.sub HS.sub).big
    refine ro_lt (r_len (n := 1) (r19.sub HS.sub) sl25 rfl) rfl ?_
    refine ro_lt (r_mv (v := iv vars) rfl) rfl ?_
    refine ro_lt (r_neq rfl rfl) rfl ?_
    refine ro_lt (r_mv (v := .bool ((!(decide ((((s.1.getD k_12.toNat (([] : List Int), ([] : List Int), 0, 0)).1).length : Int) = vars))))) rfl) rfl ?_
    replace h := ite_some h; rcases h with ⟨c28, h⟩ | ⟨c28, h⟩
    rotate_left
    · refine ro_off (sb (congrArg (!·) (decide_eq_false c28))) rfl rfl ?_
      refine ro_off (sb (congrArg (!·) (decide_eq_false c28))) rfl rfl ?_
      refine ro_off (sb (congrArg (!·) (decide_eq_false c28))) rfl rfl ?_
      refine ro_off (sb (congrArg (!·) (decide_eq_false c28))) rfl rfl ?_
      refine ro_off (sb (congrArg (!·) (decide_eq_false c28))) rfl rfl ?_
      refine ro_lt (r_pickt (v := .bool true) (congrArg (!·) (decide_eq_false c28)) rfl rfl) rfl ?_
      refine ro_lt (r_mv (v := .bool true) rfl) rfl ?_
      refine ro_off (sb (rfl)) rfl rfl ?_
      refine ro_off (sb (rfl)) rfl rfl ?_
      refine ro_off (sb (rfl)) rfl rfl ?_
      refine ro_off (sb (rfl)) rfl rfl ?_
      refine ro_lt (r_pickt (v := .bool true) (rfl) rfl rfl) rfl ?_
      refine ro_lt (r_mv (v := .bool true) rfl) rfl ?_
      refine ro_off (sb (rfl)) rfl rfl ?_
      refine ro_off (sb (rfl)) rfl rfl ?_
      refine ro_off (sb (rfl)) rfl rfl ?_
      refine ro_off (sb (rfl)) rfl rfl ?_
      refine ro_lt (r_pickt (v := .bool true) (rfl) rfl rfl) rfl ?_
      refine ro_lt (r_mv (v := .bool true) rfl) rfl ?_
      refine ro_off (sb (rfl)) rfl rfl ?_
      refine ro_off (sb (rfl)) rfl rfl ?_
      refine ro_off (sb (rfl)) rfl rfl ?_
      refine ro_off (sb (rfl)) rfl rfl ?_
      refine ro_lt (r_pickt (v := .bool true) (rfl) rfl rfl) rfl ?_
      refine ro_lt (r_mv (v := .bool true) rfl) rfl ?_
      refine ro_off (sb (rfl)) rfl rfl ?_
      refine ro_off (sb (rfl)) rfl rfl ?_
      refine ro_off (sb (rfl)) rfl rfl ?_
      refine ro_off (sb (rfl)) rfl rfl ?_
      refine ro_lt (r_pickt (v := .bool true) (rfl) rfl rfl) rfl ?_
      refine RO.nil (nx ?_)
      refine ex_if_t rfl (rfl) ?_
      refine ex_seq ?_
      refine ex_region ?_
      refine ro_lt (r_as (v := .bool false) rfl) rfl ?_
      refine RO.nil (nx ?_)
      obtain rfl := Option.some.inj h
      refine ex_ret (blk_ret (tq_ret (lq_ret ?_)))
      exact ret1 (.inr rfl) rfl rfl (P1.of_flat HS hs rfl)
    refine ro_on (sb (congrArg (!·) (decide_eq_true c28))) ?_
    refine ro_lt (r_fa (HS.boxAt 0 rfl) fd72_1 rfl) rfl ?_
    refine ro_on (sb (congrArg (!·) (decide_eq_true c28))) ?_
    refine ro_lt (r_ld ((HS.boxAt 0 rfl).seg 1 1) sc25 rfl) rfl ?_
    have b29 := (r21.sub HS.sub).big
    refine ro_on (sb (congrArg (!·) (decide_eq_true c28))) ?_
    refine ro_lt (r_len (n := 1) (r21.sub HS.sub) sl25 rfl) rfl ?_
    refine ro_on (sb (congrArg (!·) (decide_eq_true c28))) ?_
    refine ro_lt (r_mv (v := iv vars) rfl) rfl ?_
    refine ro_on (sb (congrArg (!·) (decide_eq_true c28))) ?_
    refine ro_lt (r_neq rfl rfl) rfl ?_
    refine ro_lt (r_pickf (v := .bool ((!(decide (((((s.1.getD k_12.toNat (([] : List Int), ([] : List Int), 0, 0)).2).1).length : Int) = vars))))) (congrArg (!·) (decide_eq_true c28)) rfl rfl) rfl ?_
    refine ro_lt (r_mv (v := .bool ((!(decide (((((s.1.getD k_12.toNat (([] : List Int), ([] : List Int), 0, 0)).2).1).length : Int) = vars))))) rfl) rfl ?_
    replace h := ite_some h; rcases h with ⟨c30, h⟩ | ⟨c30, h⟩
    rotate_left
    · refine ro_off (sb (congrArg (!·) (decide_eq_false c30))) rfl rfl ?_
      refine ro_off (sb (congrArg (!·) (decide_eq_false c30))) rfl rfl ?_
      refine ro_off (sb (congrArg (!·) (decide_eq_false c30))) rfl rfl ?_
      refine ro_off (sb (congrArg (!·) (decide_eq_false c30))) rfl rfl ?_
      refine ro_lt (r_pickt (v := .bool true) (congrArg (!·) (decide_eq_false c30)) rfl rfl) rfl ?_
      refine ro_lt (r_mv (v := .bool true) rfl) rfl ?_
      refine ro_off (sb (rfl)) rfl rfl ?_
      refine ro_off (sb (rfl)) rfl rfl ?_
      refine ro_off (sb (rfl)) rfl rfl ?_
      refine ro_off (sb (rfl)) rfl rfl ?_
      refine ro_lt (r_pickt (v := .bool true) (rfl) rfl rfl) rfl ?_
      refine ro_lt (r_mv (v := .bool true) rfl) rfl ?_
      refine ro_off (sb (rfl)) rfl rfl ?_
      refine ro_off (sb (rfl)) rfl rfl ?_
      refine ro_off (sb (rfl)) rfl rfl ?_
      refine ro_off (sb (rfl)) rfl rfl ?_
      refine ro_lt (r_pickt (v := .bool true) (rfl) rfl rfl) rfl ?_
      refine ro_lt (r_mv (v := .bool true) rfl) rfl ?_
      refine ro_off (sb (rfl)) rfl rfl ?_
      refine ro_off (sb (rfl)) rfl rfl ?_
      refine ro_off (sb (rfl)) rfl rfl ?_
      refine ro_off (sb (rfl)) rfl rfl ?_
      refine ro_lt (r_pickt (v := .bool true) (rfl) rfl rfl) rfl ?_
      refine RO.nil (nx ?_)
      refine ex_if_t rfl (rfl) ?_
      refine ex_seq ?_
      refine ex_region ?_
      refine ro_lt (r_as (v := .bool false) rfl) rfl ?_
      refine RO.nil (nx ?_)
      obtain rfl := Option.some.inj h
      refine ex_ret (blk_ret (tq_ret (lq_ret ?_)))
      exact ret1 (.inr rfl) rfl rfl (P1.of_flat HS hs rfl)
    refine ro_on (sb (congrArg (!·) (decide_eq_true c30))) ?_
    refine ro_lt (r_fa (HS.boxAt 0 rfl) fd72_0 rfl) rfl ?_
    refine ro_on (sb (congrArg (!·) (decide_eq_true c30))) ?_
    refine ro_lt (r_ld ((HS.boxAt 0 rfl).seg 0 1) sc25 rfl) rfl ?_
    replace h := bind_some h; obtain ⟨y31, e32, h⟩ := h
    refine ro_on (sb (congrArg (!·) (decide_eq_true c30))) ?_
    refine ro_hy (o_cf (vs := [v18]) HS rfl (c_spec_l12Truths (r19.sub HS.sub) e32) cf62 rfl) rfl ?_
    rintro _ w33 ⟨rfl, hb, HS⟩
    refine ro_on (sb (congrArg (!·) (decide_eq_true c30))) ?_
    refine ro_lt (r_not rfl) rfl ?_
    refine ro_lt (r_pickf (v := .bool ((!y31))) (congrArg (!·) (decide_eq_true c30)) rfl rfl) rfl ?_
    refine ro_lt (r_mv (v := .bool ((!y31))) rfl) rfl ?_
    replace h := ite_some h; rcases h with ⟨c34, h⟩ | ⟨c34, h⟩
    rotate_left
    · refine ro_off (sb (congrArg (!·) (bf c34))) rfl rfl ?_
      refine ro_off (sb (congrArg (!·) (bf c34))) rfl rfl ?_
      refine ro_off (sb (congrArg (!·) (bf c34))) rfl rfl ?_
      refine ro_off (sb (congrArg (!·) (bf c34))) rfl rfl ?_
      refine ro_lt (r_pickt (v := .bool true) (congrArg (!·) (bf c34)) rfl rfl) rfl ?_
      refine ro_lt (r_mv (v := .bool true) rfl) rfl ?_
      refine ro_off (sb (rfl)) rfl rfl ?_
      refine ro_off (sb (rfl)) rfl rfl ?_
      refine ro_off (sb (rfl)) rfl rfl ?_
      refine ro_off (sb (rfl)) rfl rfl ?_
      refine ro_lt (r_pickt (v := .bool true) (rfl) rfl rfl) rfl ?_
      refine ro_lt (r_mv (v := .bool true) rfl) rfl ?_
      refine ro_off (sb (rfl)) rfl rfl ?_
      refine ro_off (sb (rfl)) rfl rfl ?_
      refine ro_off (sb (rfl)) rfl rfl ?_
      refine ro_off (sb (rfl)) rfl rfl ?_
      refine ro_lt (r_pickt (v := .bool true) (rfl) rfl rfl) rfl ?_
      refine RO.nil (nx ?_)
      refine ex_if_t rfl (rfl) ?_
      refine ex_seq ?_
      refine ex_region ?_
      refine ro_lt (r_as (v := .bool false) rfl) rfl ?_
      refine RO.nil (nx ?_)
      obtain rfl := Option.some.inj h
      refine ex_ret (blk_ret (tq_ret (lq_ret ?_)))
      exact ret1 (.inr rfl) rfl rfl (P1.of_flat HS hs rfl)
    refine ro_on (sb (congrArg (!·) (c34))) ?_
    refine ro_lt (r_fa (HS.boxAt 0 rfl) fd72_1 rfl) rfl ?_
    refine ro_on (sb (congrArg (!·) (c34))) ?_
    refine ro_lt (r_ld ((HS.boxAt 0 rfl).seg 1 1) sc25 rfl) rfl ?_
    replace h := bind_some h; obtain ⟨y35, e36, h⟩ := h
    refine ro_on (sb (congrArg (!·) (c34))) ?_
    refine ro_hy (o_cf (vs := [v20]) HS rfl (c_spec_l12Truths (r21.sub HS.sub) e36) cf62 rfl) rfl ?_
    rintro _ w37 ⟨rfl, hb, HS⟩
    refine ro_on (sb (congrArg (!·) (c34))) ?_
    refine ro_lt (r_not rfl) rfl ?_
    refine ro_lt (r_pickf (v := .bool ((!y35))) (congrArg (!·) (c34)) rfl rfl) rfl ?_
    refine ro_lt (r_mv (v := .bool ((!y35))) rfl) rfl ?_
    replace h := ite_some h; rcases h with ⟨c38, h⟩ | ⟨c38, h⟩
    rotate_left
    · refine ro_off (sb (congrArg (!·) (bf c38))) rfl rfl ?_
      refine ro_off (sb (congrArg (!·) (bf c38))) rfl rfl ?_
      refine ro_off (sb (congrArg (!·) (bf c38))) rfl rfl ?_
      refine ro_off (sb (congrArg (!·) (bf c38))) rfl rfl ?_
      refine ro_lt (r_pickt (v := .bool true) (congrArg (!·) (bf c38)) rfl rfl) rfl ?_
      refine ro_lt (r_mv (v := .bool true) rfl) rfl ?_
      refine ro_off (sb (rfl)) rfl rfl ?_
      refine ro_off (sb (rfl)) rfl rfl ?_
      refine ro_off (sb (rfl)) rfl rfl ?_
      refine ro_off (sb (rfl)) rfl rfl ?_
      refine ro_lt (r_pickt (v := .bool true) (rfl) rfl rfl) rfl ?_
      refine RO.nil (nx ?_)
      refine ex_if_t rfl (rfl) ?_
      refine ex_seq ?_
      refine ex_region ?_
      refine ro_lt (r_as (v := .bool false) rfl) rfl ?_
      refine RO.nil (nx ?_)
      obtain rfl := Option.some.inj h
      refine ex_ret (blk_ret (tq_ret (lq_ret ?_)))
      exact ret1 (.inr rfl) rfl rfl (P1.of_flat HS hs rfl)
    refine ro_on (sb (congrArg (!·) (c38))) ?_
    refine ro_lt (r_fa (HS.boxAt 0 rfl) fd72_2 rfl) rfl ?_
    refine ro_on (sb (congrArg (!·) (c38))) ?_
    refine ro_lt (r_ld ((HS.boxAt 0 rfl).seg 2 1) sc3 rfl) rfl ?_
    replace h := bind_some h; obtain ⟨y39, e40, h⟩ := h
    refine ro_on (sb (congrArg (!·) (c38))) ?_
    refine ro_hy (o_cf (vs := [iv ((((s.1.getD k_12.toNat (([] : List Int), ([] : List Int), 0, 0)).2).2).1)]) HS rfl (c_spec_IsTruth e40) cf63 rfl) rfl ?_
    rintro _ w41 ⟨rfl, hb, HS⟩
    refine ro_on (sb (congrArg (!·) (c38))) ?_
    refine ro_lt (r_not rfl) rfl ?_
    refine ro_lt (r_pickf (v := .bool ((!y39))) (congrArg (!·) (c38)) rfl rfl) rfl ?_
    refine ro_lt (r_mv (v := .bool ((!y39))) rfl) rfl ?_
    replace h := ite_some h; rcases h with ⟨c42, h⟩ | ⟨c42, h⟩
    rotate_left
    · refine ro_off (sb (congrArg (!·) (bf c42))) rfl rfl ?_
      refine ro_off (sb (congrArg (!·) (bf c42))) rfl rfl ?_
      refine ro_off (sb (congrArg (!·) (bf c42))) rfl rfl ?_
      refine ro_off (sb (congrArg (!·) (bf c42))) rfl rfl ?_
      refine ro_lt (r_pickt (v := .bool true) (congrArg (!·) (bf c42)) rfl rfl) rfl ?_
      refine RO.nil (nx ?_)
      refine ex_if_t rfl (rfl) ?_
      refine ex_seq ?_
      refine ex_region ?_
      refine ro_lt (r_as (v := .bool false) rfl) rfl ?_
      refine RO.nil (nx ?_)
      obtain rfl := Option.some.inj h
      refine ex_ret (blk_ret (tq_ret (lq_ret ?_)))
      exact ret1 (.inr rfl) rfl rfl (P1.of_flat HS hs rfl)
    refine ro_on (sb (congrArg (!·) (c42))) ?_
    refine ro_lt (r_fa (HS.boxAt 0 rfl) fd72_3 rfl) rfl ?_
    refine ro_on (sb (congrArg (!·) (c42))) ?_
    refine ro_lt (r_ld ((HS.boxAt 0 rfl).seg 3 1) sc3 rfl) rfl ?_
    replace h := bind_some h; obtain ⟨y43, e44, h⟩ := h
    refine ro_on (sb (congrArg (!·) (c42))) ?_
    refine ro_hy (o_cf (vs := [iv ((((s.1.getD k_12.toNat (([] : List Int), ([] : List Int), 0, 0)).2).2).2), iv 0, iv 1]) HS rfl (c_spec_l1In e44) cf64 rfl) rfl ?_
    rintro _ w45 ⟨rfl, hb, HS⟩
    refine ro_on (sb (congrArg (!·) (c42))) ?_
    refine ro_lt (r_not rfl) rfl ?_
    refine ro_lt (r_pickf (v := .bool ((!y43))) (congrArg (!·) (c42)) rfl rfl) rfl ?_
    refine RO.nil (nx ?_)
    replace h := ite_some h; rcases h with ⟨c46, h⟩ | ⟨c46, h⟩
    rotate_left
    · refine ex_if_t rfl (congrArg (!·) (bf c46)) ?_
      refine ex_seq ?_
      refine ex_region ?_
      refine ro_lt (r_as (v := .bool false) rfl) rfl ?_
      refine RO.nil (nx ?_)
      obtain rfl := Option.some.inj h
      refine ex_ret (blk_ret (tq_ret (lq_ret ?_)))
      exact ret1 (.inr rfl) rfl rfl (P1.of_flat HS hs rfl)
    refine ex_if_f rfl (congrArg (!·) (c46)) ?_
    refine ex_skip (blk_nx (nx ?_))
    refine ex_region ?_
    refine ro_lt (r_mv (v := iv k_12) rfl) rfl ?_
    refine ro_lt (r_addw rfl rfl) rfl ?_
    refine ro_lt (r_as (v := iv (wi (k_12 + 1))) rfl) rfl ?_
    refine RO.nil ?_
    obtain rfl := Option.some.inj h
    exact lq_go ⟨⟨rfl, rfl, rfl, rfl, rfl, trivial⟩, (HS.sel (G := []) [] 1 rfl)⟩
  rcases y47 with r61 | y47
  · intro s' w' hR
    obtain rfl := Option.some.inj h
    exact (tq_ret hR)
  rintro s' w49 ⟨hs_, HS⟩
  rw [has_put hs_]; clear hs_
  refine (nx ?_)
  refine ex_seq ?_
  refine ex_region ?_
  refine ro_lt (r_mv (v := iv vars) rfl) rfl ?_
  replace h := bind_some h; obtain ⟨y51, e52, h⟩ := h
  refine ro_hy (o_cf (vs := [iv vars, iv 1, iv 4]) HS rfl (c_spec_l1In e52) cf64 rfl) rfl ?_
  rintro _ w53 ⟨rfl, hb, HS⟩
  refine ro_lt (r_mv (v := .bool y51) rfl) rfl ?_
  replace h := ite_some h; rcases h with ⟨c54, h⟩ | ⟨c54, h⟩
  rotate_left
  · refine ro_off (sb (bf c54)) rfl rfl ?_
    refine ro_off (sb (bf c54)) rfl rfl ?_
    refine ro_lt (r_pickf (v := .bool false) (bf c54) rfl rfl) rfl ?_
    refine ro_lt (r_mv (v := .bool false) rfl) rfl ?_
    refine ro_off (sb (rfl)) rfl rfl ?_
    refine ro_off (sb (rfl)) rfl rfl ?_
    refine ro_off (sb (rfl)) rfl rfl ?_
    refine ro_off (sb (rfl)) rfl rfl ?_
    refine ro_off (sb (rfl)) rfl rfl ?_
    refine ro_off (sb (rfl)) rfl rfl ?_
    refine ro_off (sb (rfl)) rfl rfl ?_
    refine ro_lt (r_pickf (v := .bool false) (rfl) rfl rfl) rfl ?_
    refine ro_lt (r_mv (v := .bool false) rfl) rfl ?_
    refine ro_off (sb (rfl)) rfl rfl ?_
    refine ro_off (sb (rfl)) rfl rfl ?_
    refine ro_off (sb (rfl)) rfl rfl ?_
    refine ro_lt (r_pickf (v := .bool false) (rfl) rfl rfl) rfl ?_
    refine ro_lt (r_as (v := .bool false) rfl) rfl ?_
    refine RO.nil (nx ?_)
    obtain rfl := Option.some.inj h
    refine ex_ret ?_
    exact ret1 (.inr rfl) rfl rfl (P1.of_flat HS hs rfl)
  refine ro_on (sb (c54)) ?_
  refine ro_lt (r_mv (v := iv ((s.1.length : Int))) rfl) rfl ?_
  refine ro_on (sb (c54)) ?_
  refine ro_lt (r_leq rfl rfl) rfl ?_
  refine ro_lt (r_pickt (v := .bool ((decide ((s.1.length : Int) ≤ 10)))) (c54) rfl rfl) rfl ?_
  refine ro_lt (r_mv (v := .bool ((decide ((s.1.length : Int) ≤ 10)))) rfl) rfl ?_
  replace h := ite_some h; rcases h with ⟨c55, h⟩ | ⟨c55, h⟩
  rotate_left
  · refine ro_off (sb (decide_eq_false c55)) rfl rfl ?_
    refine ro_off (sb (decide_eq_false c55)) rfl rfl ?_
    refine ro_off (sb (decide_eq_false c55)) rfl rfl ?_
    refine ro_off (sb (decide_eq_false c55)) rfl rfl ?_
    refine ro_off (sb (decide_eq_false c55)) rfl rfl ?_
    refine ro_off (sb (decide_eq_false c55)) rfl rfl ?_
    refine ro_off (sb (decide_eq_false c55)) rfl rfl ?_
    refine ro_lt (r_pickf (v := .bool false) (decide_eq_false c55) rfl rfl) rfl ?_
    refine ro_lt (r_mv (v := .bool false) rfl) rfl ?_
    refine ro_off (sb (rfl)) rfl rfl ?_
    refine ro_off (sb (rfl)) rfl rfl ?_
    refine ro_off (sb (rfl)) rfl rfl ?_
    refine ro_lt (r_pickf (v := .bool false) (rfl) rfl rfl) rfl ?_
    refine ro_lt (r_as (v := .bool false) rfl) rfl ?_
    refine RO.nil (nx ?_)
    obtain rfl := Option.some.inj h
    refine ex_ret ?_
    exact ret1 (.inr rfl) rfl rfl (P1.of_flat HS hs rfl)
  refine ro_on (sb (decide_eq_true c55)) ?_
  refine ro_lt (r_fa (l4.sub HS.sub) fd27_1 rfl) rfl ?_
  refine ro_on (sb (decide_eq_true c55)) ?_
  refine ro_lt (r_ld ((l4.seg 1 1).sub HS.sub) sc25 rfl) rfl ?_
  have b56 := (r_s1.sub HS.sub).big
  refine ro_on (sb (decide_eq_true c55)) ?_
  refine ro_lt (r_len (n := 1) (r_s1.sub HS.sub) sl25 rfl) rfl ?_
  refine ro_on (sb (decide_eq_true c55)) ?_
  refine ro_lt (r_mv (v := iv ((s.1.length : Int))) rfl) rfl ?_
  refine ro_on (sb (decide_eq_true c55)) ?_
  refine ro_lt (r_mv (v := iv ((s.1.length : Int))) rfl) rfl ?_
  refine ro_on (sb (decide_eq_true c55)) ?_
  refine ro_lt (r_mulw rfl rfl) rfl ?_
  refine ro_on (sb (decide_eq_true c55)) ?_
  refine ro_lt (r_eql rfl rfl) rfl ?_
  refine ro_lt (r_pickt (v := .bool ((decide ((s.2.length : Int) = wi ((s.1.length : Int) * (s.1.length : Int)))))) (decide_eq_true c55) rfl rfl) rfl ?_
  refine ro_lt (r_mv (v := .bool ((decide ((s.2.length : Int) = wi ((s.1.length : Int) * (s.1.length : Int)))))) rfl) rfl ?_
  replace h := ite_some h; rcases h with ⟨c57, h⟩ | ⟨c57, h⟩
  rotate_left
  · refine ro_off (sb (decide_eq_false c57)) rfl rfl ?_
    refine ro_off (sb (decide_eq_false c57)) rfl rfl ?_
    refine ro_off (sb (decide_eq_false c57)) rfl rfl ?_
    refine ro_lt (r_pickf (v := .bool false) (decide_eq_false c57) rfl rfl) rfl ?_
    refine ro_lt (r_as (v := .bool false) rfl) rfl ?_
    refine RO.nil (nx ?_)
    obtain rfl := Option.some.inj h
    refine ex_ret ?_
    exact ret1 (.inr rfl) rfl rfl (P1.of_flat HS hs rfl)
  refine ro_on (sb (decide_eq_true c57)) ?_
  refine ro_lt (r_fa (l4.sub HS.sub) fd27_1 rfl) rfl ?_
  refine ro_on (sb (decide_eq_true c57)) ?_
  refine ro_lt (r_ld ((l4.seg 1 1).sub HS.sub) sc25 rfl) rfl ?_
  replace h := bind_some h; obtain ⟨y58, e59, h⟩ := h
  refine ro_on (sb (decide_eq_true c57)) ?_
  refine ro_hy (o_cf (vs := [v_s1]) HS rfl (c_spec_l12Truths (r_s1.sub HS.sub) e59) cf62 rfl) rfl ?_
  rintro _ w60 ⟨rfl, hb, HS⟩
  refine ro_lt (r_pickt (v := .bool y58) (decide_eq_true c57) rfl rfl) rfl ?_
  refine ro_lt (r_as (v := .bool y58) rfl) rfl ?_
  refine RO.nil (nx ?_)
  obtain rfl := Option.some.inj h
  refine ex_ret ?_
  exact ret1 (.inr rfl) rfl rfl (P1.of_flat HS hs rfl)
theorem c_spec_l12CopyNode {w : World} {x : List Int × List Int × Int × Int} {v_x0 : Value} {v_x1 : Value} (r_x0 : Rd (.sl 3 (.int .i64)) (hp w) x.1 [v_x0]) (r_x1 : Rd (.sl 3 (.int .i64)) (hp w) x.2.1 [v_x1]) {r : (List Int × List Int × Int × Int)} (h : F_spec_l12CopyNode x = some r) : Calls Try.prog 109 [.agg #[v_x0, v_x1, iv x.2.2.1, iv x.2.2.2]].toArray w (P1 (.prod (.sl 3 (.int .i64)) (.prod (.sl 3 (.int .i64)) (.prod (.int .i64) (.int .i64)))) w r) := by
  unfold F_spec_l12CopyNode at h
  have HS := St.init w
  have hs := Sub.refl (hp w)
  refine calls_ex (n := 16) Try.func109 rfl Try.ntmps109 (Nat.le_of_ble_eq_true rfl) ?_
  refine ex_seq ?_
  refine ex_region ?_
  refine ro_hy (o_boxz HS (cs := [v_x0, v_x1, iv x.2.2.1, iv x.2.2.2]) rfl rfl) rfl ?_
  rintro _ w2 ⟨g1, H5, rfl, q3, l4, hb, HS⟩
  replace r_x0 := r_x0.sub q3
  replace r_x1 := r_x1.sub q3
  replace hs := hs.trans q3
  refine ro_hy (o_alloc HS (cs := [.slice none 0 0, .slice none 0 0, iv 0, iv 0]) ze72 rfl) rfl ?_
  rintro _ w7 ⟨g6, rfl, hb, HS⟩
  refine RO.nil (nx ?_)
  refine ex_seq ?_
  refine ex_dr (Mm H5 []) (fun _ => True) [0, 0, 2, 7, 0, 0, 32, 127, 0, 256, 0, 1024, 4095, 8191] [0, 3, 4, 7, 13] (.op 1 (.op 2 (.op 5 (.op 6 (.op 8 (.op 9 (.op 10 (.op 11 (.alts (.br 0 (.alts (.br 3 (.op 4 (.op 7 (.op 12 (.op 13 .nil)))) (.br 4 (.op 3 (.op 7 (.op 12 (.op 13 .nil)))) .stop))) (.br 4 (.op 0 (.op 3 (.op 7 (.op 12 (.op 13 .nil))))) .stop))))))))))) mix (by kernel_rfl) (by kernel_rfl) ?_
  intro w9 hw hb; have HS := HS.ext hb; clear hw hb
  refine RT.lt rfl rfl rfl rfl (fun w' k => r_fa (l4.sub HS.sub) fd72_0 rfl) ?_
  refine RT.lt rfl rfl rfl rfl (fun w' k => r_ld ((l4.seg 0 1).kp HS.sub k.kp (mh rfl)) sc25 rfl) ?_
  refine RT.lt rfl rfl rfl rfl (fun w' k => r_fa (l4.sub HS.sub) fd72_1 rfl) ?_
  refine RT.lt rfl rfl rfl rfl (fun w' k => r_ld ((l4.seg 1 1).kp HS.sub k.kp (mh rfl)) sc25 rfl) ?_
  refine RT.lt rfl rfl rfl rfl (fun w' k => r_fa (l4.sub HS.sub) fd72_2 rfl) ?_
  refine RT.lt rfl rfl rfl rfl (fun w' k => r_ld ((l4.seg 2 1).kp HS.sub k.kp (mh rfl)) sc3 rfl) ?_
  refine RT.lt rfl rfl rfl rfl (fun w' k => r_fa (l4.sub HS.sub) fd72_3 rfl) ?_
  refine RT.lt rfl rfl rfl rfl (fun w' k => r_ld ((l4.seg 3 1).kp HS.sub k.kp (mh rfl)) sc3 rfl) ?_
  replace h := grd_some h; obtain ⟨g513, h⟩ := h
  replace h := grd_some h; obtain ⟨g521, h⟩ := h
  refine RT.alts ?_
  refine RT.br rfl rfl rfl rfl (o_bsv HS (cs := []) sl25 zz3 (vs := []) rfl rfl vc0 rfl rfl (by decide)) (fun _ _ ⟨_, _, hb, _⟩ => km_below hb (fun _ => trivial)) ?_ ?_
  · rintro _ w611 ⟨g610, rfl, hb, HS⟩
    replace HS := HS.lit0 (.int .i64)
    refine RT.alts ?_
    refine RT.br rfl rfl rfl rfl (o_appn (e2 := 3) HS rfl (r_x0.sub HS.sub) rfl rfl sl25 zz3 g513) (fun _ _ ⟨HS2, hk⟩ => km_st HS (Sub.refl _) (hk _ fun _ h => h) (own_none HS) (by kernel_rfl) (fun _ => trivial)) ?_ ?_
    · rintro v614 w615 ⟨HS, hk⟩
      refine RT.hy rfl rfl rfl rfl rfl (o_bsv HS (cs := []) sl25 zz3 (vs := []) rfl rfl vc0 rfl rfl (by decide)) (fun _ _ ⟨_, _, hb, _⟩ => km_below hb (fun _ => trivial)) ?_
      rintro _ w618 ⟨g617, rfl, hb, HS⟩
      replace HS := HS.lit0 (.int .i64)
      refine RT.hy rfl rfl rfl rfl rfl (o_appn (e2 := 3) HS rfl (r_x1.sub HS.sub) rfl rfl sl25 zz3 g521) (fun _ _ ⟨HS2, hk⟩ => km_st HS (Sub.refl _) (hk _ fun _ h => h) (own_none HS) (by kernel_rfl) (fun _ => trivial)) ?_
      rintro v621 w622 ⟨HS, hk⟩
      refine RT.lt rfl rfl rfl rfl (fun w' k => r_bld (cells := [v614, v621, iv x.2.2.1, iv x.2.2.2]) bz72 rfl (vp (HS.rd 1 rfl).vc (vp (HS.rd 0 rfl).vc (vp rfl (vp rfl vp0)))) rfl) ?_
      refine RT.hy rfl rfl rfl rfl rfl (o_str (off := 0) (vs := [v614, v621, iv x.2.2.1, iv x.2.2.2]) (l' := [v614, v621, iv x.2.2.1, iv x.2.2.2]) (HS.sel (G := [_, _, _]) [2] 0 rfl) rfl rfl rfl st72 rfl rfl (pl (HS.rd 1 rfl).pl (pl (HS.rd 0 rfl).pl (pl rfl (pl rfl pl0)))) rfl) (fun _ _ ⟨_, hk, HS2⟩ => km_st HS (Sub.refl _) (hk (fun b => b = g6) rfl) (fun b hb => hb ▸ bx_none (HS.sel (G := [_, _, _]) [2] 0 rfl)) (by kernel_rfl) (fun _ => trivial)) ?_
      rintro _ w624 ⟨rfl, hk, HS⟩
      refine RT.nil (nx ?_)
      obtain rfl := Option.some.inj h
      refine ex_ret ?_
      exact ret1 (.inr rfl) rfl (rv_box HS (i := 0) rfl rfl ag72 rfl) (P1.of (((((((HS.add (t := (.int .i64)) (x := x.2.2.2) rfl rfl).add (t := (.int .i64)) (x := x.2.2.1) rfl rfl).join).sel (G := [_, _, _, _]) [2] 0 rfl).join).sel (G := [_, _, _]) [2] 0 rfl).join) hs)
    refine RT.br rfl rfl rfl rfl (o_bsv HS (cs := []) sl25 zz3 (vs := []) rfl rfl vc0 rfl rfl (by decide)) (fun _ _ ⟨_, _, hb, _⟩ => km_below hb (fun _ => trivial)) ?_ ?_
    · rintro _ w632 ⟨g631, rfl, hb, HS⟩
      replace HS := HS.lit0 (.int .i64)
      refine RT.hy rfl rfl rfl rfl rfl (o_appn (e2 := 3) (HS.sel (G := [_, _, _]) [1] 0 rfl) rfl (r_x0.sub HS.sub) rfl rfl sl25 zz3 g513) (fun _ _ ⟨HS2, hk⟩ => km_st HS (Sub.refl _) (hk _ fun _ h => h) (own_none (HS.sel (G := [_, _, _]) [1] 0 rfl)) (by kernel_rfl) (fun _ => trivial)) ?_
      rintro v635 w636 ⟨HS, hk⟩
      refine RT.hy rfl rfl rfl rfl rfl (o_appn (e2 := 3) (HS.sel (G := [_, _, _]) [1] 0 rfl) rfl (r_x1.sub HS.sub) rfl rfl sl25 zz3 g521) (fun _ _ ⟨HS2, hk⟩ => km_st HS (Sub.refl _) (hk _ fun _ h => h) (own_none (HS.sel (G := [_, _, _]) [1] 0 rfl)) (by kernel_rfl) (fun _ => trivial)) ?_
      rintro v639 w640 ⟨HS, hk⟩
      refine RT.lt rfl rfl rfl rfl (fun w' k => r_bld (cells := [v635, v639, iv x.2.2.1, iv x.2.2.2]) bz72 rfl (vp (HS.rd 1 rfl).vc (vp (HS.rd 0 rfl).vc (vp rfl (vp rfl vp0)))) rfl) ?_
      refine RT.hy rfl rfl rfl rfl rfl (o_str (off := 0) (vs := [v635, v639, iv x.2.2.1, iv x.2.2.2]) (l' := [v635, v639, iv x.2.2.1, iv x.2.2.2]) (HS.sel (G := [_, _, _]) [2] 0 rfl) rfl rfl rfl st72 rfl rfl (pl (HS.rd 1 rfl).pl (pl (HS.rd 0 rfl).pl (pl rfl (pl rfl pl0)))) rfl) (fun _ _ ⟨_, hk, HS2⟩ => km_st HS (Sub.refl _) (hk (fun b => b = g6) rfl) (fun b hb => hb ▸ bx_none (HS.sel (G := [_, _, _]) [2] 0 rfl)) (by kernel_rfl) (fun _ => trivial)) ?_
      rintro _ w642 ⟨rfl, hk, HS⟩
      refine RT.nil (nx ?_)
      obtain rfl := Option.some.inj h
      refine ex_ret ?_
      exact ret1 (.inr rfl) rfl (rv_box HS (i := 0) rfl rfl ag72 rfl) (P1.of (((((((HS.add (t := (.int .i64)) (x := x.2.2.2) rfl rfl).add (t := (.int .i64)) (x := x.2.2.1) rfl rfl).join).sel (G := [_, _, _, _]) [2] 0 rfl).join).sel (G := [_, _, _]) [2] 0 rfl).join) hs)
    exact RT.stop
  refine RT.br rfl rfl rfl rfl (o_bsv HS (cs := []) sl25 zz3 (vs := []) rfl rfl vc0 rfl rfl (by decide)) (fun _ _ ⟨_, _, hb, _⟩ => km_below hb (fun _ => trivial)) ?_ ?_
  · rintro _ w650 ⟨g649, rfl, hb, HS⟩
    replace HS := HS.lit0 (.int .i64)
    refine RT.hy rfl rfl rfl rfl rfl (o_bsv HS (cs := []) sl25 zz3 (vs := []) rfl rfl vc0 rfl rfl (by decide)) (fun _ _ ⟨_, _, hb, _⟩ => km_below hb (fun _ => trivial)) ?_
    rintro _ w653 ⟨g652, rfl, hb, HS⟩
    replace HS := HS.lit0 (.int .i64)
    refine RT.hy rfl rfl rfl rfl rfl (o_appn (e2 := 3) HS rfl (r_x0.sub HS.sub) rfl rfl sl25 zz3 g513) (fun _ _ ⟨HS2, hk⟩ => km_st HS (Sub.refl _) (hk _ fun _ h => h) (own_none HS) (by kernel_rfl) (fun _ => trivial)) ?_
    rintro v656 w657 ⟨HS, hk⟩
    refine RT.hy rfl rfl rfl rfl rfl (o_appn (e2 := 3) (HS.sel (G := [_, _, _]) [1] 0 rfl) rfl (r_x1.sub HS.sub) rfl rfl sl25 zz3 g521) (fun _ _ ⟨HS2, hk⟩ => km_st HS (Sub.refl _) (hk _ fun _ h => h) (own_none (HS.sel (G := [_, _, _]) [1] 0 rfl)) (by kernel_rfl) (fun _ => trivial)) ?_
    rintro v660 w661 ⟨HS, hk⟩
    refine RT.lt rfl rfl rfl rfl (fun w' k => r_bld (cells := [v656, v660, iv x.2.2.1, iv x.2.2.2]) bz72 rfl (vp (HS.rd 1 rfl).vc (vp (HS.rd 0 rfl).vc (vp rfl (vp rfl vp0)))) rfl) ?_
    refine RT.hy rfl rfl rfl rfl rfl (o_str (off := 0) (vs := [v656, v660, iv x.2.2.1, iv x.2.2.2]) (l' := [v656, v660, iv x.2.2.1, iv x.2.2.2]) (HS.sel (G := [_, _, _]) [2] 0 rfl) rfl rfl rfl st72 rfl rfl (pl (HS.rd 1 rfl).pl (pl (HS.rd 0 rfl).pl (pl rfl (pl rfl pl0)))) rfl) (fun _ _ ⟨_, hk, HS2⟩ => km_st HS (Sub.refl _) (hk (fun b => b = g6) rfl) (fun b hb => hb ▸ bx_none (HS.sel (G := [_, _, _]) [2] 0 rfl)) (by kernel_rfl) (fun _ => trivial)) ?_
    rintro _ w663 ⟨rfl, hk, HS⟩
    refine RT.nil (nx ?_)
    obtain rfl := Option.some.inj h
    refine ex_ret ?_
    exact ret1 (.inr rfl) rfl (rv_box HS (i := 0) rfl rfl ag72 rfl) (P1.of (((((((HS.add (t := (.int .i64)) (x := x.2.2.2) rfl rfl).add (t := (.int .i64)) (x := x.2.2.1) rfl rfl).join).sel (G := [_, _, _, _]) [2] 0 rfl).join).sel (G := [_, _, _]) [2] 0 rfl).join) hs)
  exact RT.stop
theorem c_spec_l12Copy {w : World} {s : (List (List Int × List Int × Int × Int)) × List Int} {v_s0 : Value} {v_s1 : Value} (r_s0 : Rd (.sl 72 (.prod (.sl 3 (.int .i64)) (.prod (.sl 3 (.int .i64)) (.prod (.int .i64) (.int .i64))))) (hp w) s.1 [v_s0]) (r_s1 : Rd (.sl 3 (.int .i64)) (hp w) s.2 [v_s1]) {r : ((List (List Int × List Int × Int × Int)) × List Int)} (h : F_spec_l12Copy s = some r) : Calls Try.prog 55 [.agg #[v_s0, v_s1]].toArray w (P1 (.prod (.sl 72 (.prod (.sl 3 (.int .i64)) (.prod (.sl 3 (.int .i64)) (.prod (.int .i64) (.int .i64))))) (.sl 3 (.int .i64))) w r) := by
  unfold F_spec_l12Copy at h
  have HS := St.init w
  have hs := Sub.refl (hp w)
  refine calls_ex (n := 29) Try.func55 rfl Try.ntmps55 (Nat.le_of_ble_eq_true rfl) ?_
  refine ex_seq ?_
  refine ex_region ?_
  refine ro_hy (o_boxz HS (cs := [v_s0, v_s1]) rfl rfl) rfl ?_
  rintro _ w2 ⟨g1, H5, rfl, q3, l4, hb, HS⟩
  replace r_s0 := r_s0.sub q3
  replace r_s1 := r_s1.sub q3
  replace hs := hs.trans q3
  refine ro_hy (o_alloc HS (cs := [.slice none 0 0, .slice none 0 0]) ze27 rfl) rfl ?_
  rintro _ w7 ⟨g6, rfl, hb, HS⟩
  refine RO.nil (nx ?_)
  refine ex_seq ?_
  refine ex_region ?_
  refine ro_hy (o_bsv HS (cs := []) sl25 zz3 (vs := []) rfl rfl vc0 rfl rfl (by decide)) rfl ?_
  rintro _ w10 ⟨g9, rfl, hb, HS⟩
  replace HS := HS.lit0 (.int .i64)
  refine ro_lt (r_fa (l4.sub HS.sub) fd27_1 rfl) rfl ?_
  refine ro_lt (r_ld ((l4.seg 1 1).sub HS.sub) sc25 rfl) rfl ?_
  replace h := grd_some h; obtain ⟨g12, h⟩ := h
  refine ro_hy (o_appn (e2 := 3) HS rfl (r_s1.sub HS.sub) rfl rfl sl25 zz3 g12) rfl ?_
  rintro v14 w15 ⟨HS, hk⟩
  refine ro_lt (r_bld (cells := [.slice none 0 0, v14]) bz27 rfl (vp (HS.rd 0 rfl).vc vp0) rfl) rfl ?_
  refine ro_hy (o_alloc HS (cs := [.slice none 0 0, .slice none 0 0]) ze27 rfl) rfl ?_
  rintro _ w18 ⟨g17, rfl, hb, HS⟩
  refine ro_hy (o_str (off := 0) (vs := [.slice none 0 0, v14]) (l' := [.slice none 0 0, v14]) HS rfl rfl rfl st27 rfl rfl (pl rfl (pl (HS.rd 1 rfl).pl pl0)) rfl) rfl ?_
  rintro _ w20 ⟨rfl, hk, HS⟩
  refine RO.nil (nx ?_)
  refine ex_seq ?_
  refine ex_seq ?_
  refine ex_region ?_
  refine ro_lt (r_as (v := iv 0) rfl) rfl ?_
  refine RO.nil (nx ?_)
  replace h := bind_some h; obtain ⟨y68, e69, h⟩ := h
  refine ex_lbo (fun (st : (List (List Int × List Int × Int × Int)) × Int) s' w' => ∃ v32 : Value, Has s' [(1, .pointer (some ⟨g1, 0, none⟩)), (2, .pointer (some ⟨g6, 0, none⟩)), (3, .pointer (some ⟨g17, 0, none⟩)), (4, iv st.2)] ∧ St w H5 w' [.ow (.sl 72 (.prod (.sl 3 (.int .i64)) (.prod (.sl 3 (.int .i64)) (.prod (.int .i64) (.int .i64))))) st.1 [v32], .bx g17 27 [v32, v14], .ow (.sl 3 (.int .i64)) ((([] : List Int)) ++ s.2) [v14], .bx g6 27 [.slice none 0 0, .slice none 0 0]]) e69 ⟨.slice none 0 0, ⟨rfl, rfl, rfl, rfl, trivial⟩, (HS.nil 72 (.prod (.sl 3 (.int .i64)) (.prod (.sl 3 (.int .i64)) (.prod (.int .i64) (.int .i64)))))⟩ ?_ ?_
  · rintro ⟨i30, k_33⟩ c' s' w34 ⟨v32, hs_, HS⟩ h
    rw [has_put hs_]; clear hs_
    try dsimp only at HS
    replace h : F_spec_l12Copy_b1 s i30 k_33 = some c' := h
    unfold F_spec_l12Copy_b1 at h
    refine ex_seq ?_
    refine ex_seq ?_
    refine ex_region ?_
    refine ro_lt (r_mv (v := iv k_33) rfl) rfl ?_
    refine ro_lt (r_fa (l4.sub HS.sub) fd27_0 rfl) rfl ?_
    refine ro_lt (r_ld ((l4.seg 0 1).sub HS.sub) sc24 rfl) rfl ?_
    have b35 := (r_s0.sub HS.sub).big
    refine ro_lt (r_len (n := 4) (r_s0.sub HS.sub) sl24 rfl) rfl ?_
    refine ro_lt (r_lss rfl rfl) rfl ?_
    refine RO.nil (nx ?_)
    replace h := ite_some h; rcases h with ⟨c36, h⟩ | ⟨c36, h⟩
    rotate_left
    · refine ex_if_f rfl (decide_eq_false c36) ?_
      refine ex_exit (tq_exit ?_)
      obtain rfl := Option.some.inj h
      exact lq_out ⟨v32, ⟨rfl, rfl, rfl, rfl, trivial⟩, HS⟩
    refine ex_if_t rfl (decide_eq_true c36) ?_
    refine ex_skip (nx ?_)
    refine ex_seq ?_
    refine ex_block ?_
    refine ex_dr (Mm H5 [1]) (fun _ => True) [0, 1, 0, 4, 0, 28, 60, 124, 252, 511, 1023, 2047] [7, 8, 9, 11] (.op 0 (.op 1 (.op 2 (.op 3 (.op 4 (.op 5 (.op 6 (.op 7 (.op 8 (.op 9 (.op 10 (.op 11 .nil)))))))))))) mix (by kernel_rfl) (by kernel_rfl) ?_
    intro w37 hw hb; have HS := HS.ext hb; clear hw hb
    refine RT.lt rfl rfl rfl rfl (fun w' k => r_fa (HS.boxAt 1 rfl) fd27_0 rfl) ?_
    refine RT.lt rfl rfl rfl rfl (fun w' k => r_ld (((HS.boxAt 1 rfl).seg 0 1).k0 (Sub.refl _) (k.kp.none rfl)) sc24 rfl) ?_
    refine RT.lt rfl rfl rfl rfl (fun w' k => r_fa (l4.sub HS.sub) fd27_0 rfl) ?_
    refine RT.lt rfl rfl rfl rfl (fun w' k => r_ld ((l4.seg 0 1).kp HS.sub k.kp (mh rfl)) sc24 rfl) ?_
    refine RT.lt rfl rfl rfl rfl (fun w' k => r_mv (v := iv k_33) rfl) ?_
    replace h := grd_some h; obtain ⟨g38, h⟩ := h
    obtain ⟨_, q39, l40⟩ := r_s0.idx g38.1 g38.2
    obtain ⟨v41, v43, rfl, r42, r44⟩ := rd_K72 q39
    refine RT.lt rfl rfl rfl rfl (fun w' k => r_ia (r_s0.sub HS.sub) sl24 g38.1 g38.2 rfl rfl) ?_
    refine RT.lt rfl rfl rfl rfl (fun w' k => r_lda (l40.kp HS.sub k.kp (mh rfl)) ag72 rfl rfl) ?_
    replace h := bind_some h; obtain ⟨y45, e46, h⟩ := h
    refine RT.hy rfl rfl rfl rfl rfl (o_c1 (vs := [.agg #[v41, v43, iv ((((s.1.getD k_33.toNat (([] : List Int), ([] : List Int), 0, 0)).2).2).1), iv ((((s.1.getD k_33.toNat (([] : List Int), ([] : List Int), 0, 0)).2).2).2)]]) HS (c_spec_l12CopyNode (r42.sub HS.sub) (r44.sub HS.sub) e46) cf109 rfl) (fun _ _ ⟨_, _, hb, _⟩ => km_below hb (fun _ => trivial)) ?_
    rintro _ w47 ⟨cs48, rfl, hb, HS⟩
    replace HS := st_K72 HS
    obtain ⟨v50, v52, rfl, HS⟩ := HS
    refine RT.hy rfl rfl rfl rfl rfl (o_bsv HS (cs := [v50, v52, iv y45.2.2.1, iv y45.2.2.2]) sl24 zz72 (vs := [.agg #[v50, v52, iv y45.2.2.1, iv y45.2.2.2]]) rfl rfl (vc rfl vc0) rfl rfl (by decide)) (fun _ _ ⟨_, _, hb, _⟩ => km_below hb (fun _ => trivial)) ?_
    rintro _ w54 ⟨g53, rfl, hb, HS⟩
    replace h := grd_some h; obtain ⟨g56, h⟩ := h
    refine RT.hy rfl rfl rfl rfl rfl (o_app1 ((((((((HS.add (t := (.int .i64)) (x := y45.2.2.2) rfl rfl).add (t := (.int .i64)) (x := y45.2.2.1) rfl rfl).join).sel (G := [_, _, _, _, _, _, _, _]) [3] 0 rfl).join).sel (G := [_, _, _, _, _, _, _]) [2] 0 rfl).join).sel (G := [_, _, _, _, _, _]) [2] 0 rfl) rfl rfl sl24 zz72 g56) (fun _ _ ⟨HS2, hk⟩ => km_st HS (Sub.refl _) (hk _ fun _ h => h) (own_none ((((((((HS.add (t := (.int .i64)) (x := y45.2.2.2) rfl rfl).add (t := (.int .i64)) (x := y45.2.2.1) rfl rfl).join).sel (G := [_, _, _, _, _, _, _, _]) [3] 0 rfl).join).sel (G := [_, _, _, _, _, _, _]) [2] 0 rfl).join).sel (G := [_, _, _, _, _, _]) [2] 0 rfl)) (by kernel_rfl) (fun _ => trivial)) ?_
    rintro v63 w64 ⟨HS, hk⟩
    refine RT.lt rfl rfl rfl rfl (fun w' k => r_fa (HS.boxAt 1 rfl) fd27_0 rfl) ?_
    refine RT.hy rfl rfl rfl rfl rfl (o_str (off := 0) (vs := [v63]) (l' := [v63, v14]) (HS.sel (G := [_, _, _, _]) [1] 0 rfl) rfl rfl (HS.rd 0 rfl).vc st24 rfl rfl (pl (HS.rd 0 rfl).pl pl0) rfl) (fun _ _ ⟨_, hk, HS2⟩ => km_st HS (Sub.refl _) (hk (fun b => b = g17) rfl) (fun b hb => hb ▸ bx_none (HS.sel (G := [_, _, _, _]) [1] 0 rfl)) (by kernel_rfl) (fun _ => trivial)) ?_
    rintro _ w66 ⟨rfl, hk, HS⟩
    refine RT.nil (blk_nx (nx ?_))
    refine ex_region ?_
    refine ro_lt (r_mv (v := iv k_33) rfl) rfl ?_
    refine ro_lt (r_addw rfl rfl) rfl ?_
    refine ro_lt (r_as (v := iv (wi (k_33 + 1))) rfl) rfl ?_
    refine RO.nil ?_
    obtain rfl := Option.some.inj h
    exact lq_go ⟨v63, ⟨rfl, rfl, rfl, rfl, trivial⟩, (HS.sel (G := [_, _, _, _]) [1, 0, 0, 0] 0 rfl)⟩
  rintro s' w71 ⟨v32, hs_, HS⟩
  rw [has_put hs_]; clear hs_
  refine (nx ?_)
  refine ex_seq ?_
  refine ex_region ?_
  refine ro_lt (r_lda (HS.boxAt 1 rfl) ag27 rfl rfl) rfl ?_
  refine ro_hy (o_str (off := 0) (vs := [v32, v14]) (l' := [v32, v14]) (HS.sel (G := [_, _, _, _]) [3] 0 rfl) rfl rfl rfl st27 rfl rfl (pl (HS.rd 0 rfl).pl (pl (HS.rd 2 rfl).pl pl0)) rfl) rfl ?_
  rintro _ w73 ⟨rfl, hk, HS⟩
  refine RO.nil (nx ?_)
  obtain rfl := Option.some.inj h
  refine ex_ret ?_
  exact ret1 (.inr rfl) rfl (rv_box HS (i := 0) rfl rfl ag27 rfl) (P1.of (((HS.sel (G := [_, _, _, _]) [3] 0 rfl).sel (G := [_, _, _, _]) [2] 0 rfl).join) hs)
theorem c_spec_l20Value {w : World} {H : Hp} {FR : List Ob} {g_r : Nat} {r_vars : Int} {v_r_Nodes : Value} {n_r : Nat} {sh_r : Shp} {r_Nodes : List (List Int × List Int × Int × Int)} {v_r_Next : Value} {r_Next : List Int} {r_changed : Bool} {r_bad : Bool} {now : Int} {value : Int} (HS : St w H w (.bx g_r 91 [iv r_vars, v_r_Nodes, v_r_Next, .bool r_changed, .bool r_bad] :: .pr (NS 72 3 n_r v_r_Nodes sh_r r_Nodes) :: .ow (.sl 3 (.int .i64)) r_Next [v_r_Next] :: FR)) {r : Int × List (List Int × List Int × Int × Int) × List Int × Bool × Bool} (h : F_spec_l20Value r_vars n_r r_Nodes r_Next r_changed r_bad now value = some r) : Calls Try.prog 125 [.pointer (some ⟨g_r, 0, none⟩), iv now, iv value].toArray w (((fun r => PS (iv r.1) fun w' => St w H w' (.bx g_r 91 [iv r_vars, v_r_Nodes, v_r_Next, .bool r.2.2.2.1, .bool r.2.2.2.2] :: .pr (NS 72 3 n_r v_r_Nodes sh_r r.2.1) :: .ow (.sl 3 (.int .i64)) r.2.2.1 [v_r_Next] :: FR)) : (Int × List (List Int × List Int × Int × Int) × List Int × Bool × Bool) → Ending → World → Prop) r) := by
  unfold F_spec_l20Value at h
  refine calls_ex (n := 22) Try.func125 rfl Try.ntmps125 (Nat.le_of_ble_eq_true rfl) ?_
  refine ex_seq ?_
  refine ex_region ?_
  refine ro_lt (r_as (v := iv 0) rfl) rfl ?_
  refine RO.nil (nx ?_)
  refine ex_seq ?_
  refine ex_block ?_
  refine ex_seq ?_
  refine ex_region ?_
  refine ro_lt (r_mv (v := iv now) rfl) rfl ?_
  refine ro_lt (r_eql rfl rfl) rfl ?_
  refine ro_lt (r_as (v := .bool ((decide (now = 1)))) rfl) rfl ?_
  refine RO.nil (nx ?_)
  replace h := ite_some h; rcases h with ⟨c4, h⟩ | ⟨c4, h⟩
  · refine ex_if_t rfl (decide_eq_true c4) ?_
    refine ex_seq ?_
    refine ex_region ?_
    refine ro_lt (r_mv (v := .pointer (some ⟨g_r, 0, none⟩)) rfl) rfl ?_
    refine ro_lt (r_nc (HS.boxAt 0 rfl) rfl) rfl ?_
    refine ro_lt (r_fa (HS.boxAt 0 rfl) fd91_2 rfl) rfl ?_
    refine ro_hy (o_str (off := 3) (vs := [.bool true]) (l' := [iv r_vars, v_r_Nodes, v_r_Next, .bool true, .bool r_bad]) HS rfl rfl rfl st4 rfl rfl (pl rfl pl0) rfl) rfl ?_
    rintro _ w5 ⟨rfl, hk, HS⟩
    refine RO.nil (nx ?_)
    refine ex_seq ?_
    refine ex_region ?_
    refine ro_lt (r_mv (v := iv value) rfl) rfl ?_
    refine ro_lt (r_as (v := iv value) rfl) rfl ?_
    refine RO.nil (nx ?_)
    obtain rfl := Option.some.inj h
    refine ex_ret (blk_ret (tq_ret ?_))
    exact ret1 (.inr rfl) rfl rfl ⟨rfl, HS⟩
  refine ex_if_f rfl (decide_eq_false c4) ?_
  refine ex_seq ?_
  refine ex_region ?_
  refine ro_lt (r_mv (v := iv now) rfl) rfl ?_
  refine ro_lt (r_mv (v := iv value) rfl) rfl ?_
  refine ro_lt (r_neq rfl rfl) rfl ?_
  refine ro_lt (r_as (v := .bool ((!(decide (now = value))))) rfl) rfl ?_
  refine RO.nil (nx ?_)
  replace h := ite_some h; rcases h with ⟨c7, h⟩ | ⟨c7, h⟩
  · refine ex_if_f rfl (congrArg (!·) (decide_eq_true c7)) ?_
    refine ex_skip (blk_nx (nx ?_))
    refine ex_seq ?_
    refine ex_region ?_
    refine ro_lt (r_mv (v := iv now) rfl) rfl ?_
    refine ro_lt (r_as (v := iv now) rfl) rfl ?_
    refine RO.nil (nx ?_)
    obtain rfl := Option.some.inj h
    refine ex_ret ?_
    exact ret1 (.inr rfl) rfl rfl ⟨rfl, HS⟩
  refine ex_if_t rfl (congrArg (!·) (decide_eq_false c7)) ?_
  refine ex_region ?_
  refine ro_lt (r_mv (v := .pointer (some ⟨g_r, 0, none⟩)) rfl) rfl ?_
  refine ro_lt (r_nc (HS.boxAt 0 rfl) rfl) rfl ?_
  refine ro_lt (r_fa (HS.boxAt 0 rfl) fd91_3 rfl) rfl ?_
  refine ro_hy (o_str (off := 4) (vs := [.bool true]) (l' := [iv r_vars, v_r_Nodes, v_r_Next, .bool r_changed, .bool true]) HS rfl rfl rfl st4 rfl rfl (pl rfl pl0) rfl) rfl ?_
  rintro _ w8 ⟨rfl, hk, HS⟩
  refine RO.nil (blk_nx (nx ?_))
  refine ex_seq ?_
  refine ex_region ?_
  refine ro_lt (r_mv (v := iv now) rfl) rfl ?_
  refine ro_lt (r_as (v := iv now) rfl) rfl ?_
  refine RO.nil (nx ?_)
  obtain rfl := Option.some.inj h
  refine ex_ret ?_
  exact ret1 (.inr rfl) rfl rfl ⟨rfl, HS⟩
theorem c_spec_l20One {w : World} {H : Hp} {FR : List Ob} {g_r : Nat} {r_vars : Int} {v_r_Nodes : Value} {n_r : Nat} {sh_r : Shp} {r_Nodes : List (List Int × List Int × Int × Int)} {v_r_Next : Value} {r_Next : List Int} {r_changed : Bool} {r_bad : Bool} {i : Int} (HS : St w H w (.bx g_r 91 [iv r_vars, v_r_Nodes, v_r_Next, .bool r_changed, .bool r_bad] :: .pr (NS 72 3 n_r v_r_Nodes sh_r r_Nodes) :: .ow (.sl 3 (.int .i64)) r_Next [v_r_Next] :: FR)) {r : List (List Int × List Int × Int × Int) × List Int × Bool × Bool} (h : F_spec_l20One r_vars n_r r_Nodes r_Next r_changed r_bad i = some r) : Calls Try.prog 124 [.pointer (some ⟨g_r, 0, none⟩), iv i].toArray w (((fun r => PS (.tuple #[]) fun w' => St w H w' (.bx g_r 91 [iv r_vars, v_r_Nodes, v_r_Next, .bool r.2.2.1, .bool r.2.2.2] :: .pr (NS 72 3 n_r v_r_Nodes sh_r r.1) :: .ow (.sl 3 (.int .i64)) r.2.1 [v_r_Next] :: FR)) : (List (List Int × List Int × Int × Int) × List Int × Bool × Bool) → Ending → World → Prop) r) := by
  unfold F_spec_l20One at h
  refine calls_ex (n := 23) Try.func124 rfl Try.ntmps124 (Nat.le_of_ble_eq_true rfl) ?_
  refine ex_dr (Mm H [15]) (Phi g_r (fun (a : Bool × Bool) => [iv r_vars, v_r_Nodes, v_r_Next, .bool a.1, .bool a.2]) v_r_Nodes n_r sh_r) [0, 1, 3, 7, 15, 0, 0, 0, 128, 384, 896, 1920, 0, 8064, 16256, 32640, 65472, 131071, 262143, 524287] [16, 19] (.op 0 (.op 1 (.op 2 (.op 3 (.op 4 (.op 5 (.op 6 (.op 7 (.op 8 (.op 9 (.op 10 (.op 11 (.op 12 (.op 13 (.op 14 (.op 15 (.op 16 (.op 17 (.op 18 (.op 19 .nil)))))))))))))))))))) mix (by kernel_rfl) (by kernel_rfl) ?_
  intro w4 hw hb; have HS := HS.ext hb; clear hw hb
  refine RT.lt rfl rfl rfl rfl (fun w' k => r_mv (v := .pointer (some ⟨g_r, 0, none⟩)) rfl) ?_
  refine RT.lt rfl rfl rfl rfl (fun w' k => r_nc (HS.boxAt 0 rfl) rfl) ?_
  refine RT.lt rfl rfl rfl rfl (fun w' k => r_fa (HS.boxAt 0 rfl) fd91_1 rfl) ?_
  refine RT.lt rfl rfl rfl rfl (fun w' k => r_fa ((HS.boxAt 0 rfl).seg 1 2) fd27_0 rfl) ?_
  refine RT.lt rfl rfl rfl rfl (fun w' k => r_ld (exGet (exSeg (exSeg (k.phi (Phi.of (f := (fun (a : Bool × Bool) => [iv r_vars, v_r_Nodes, v_r_Next, .bool a.1, .bool a.2])) (r_changed, r_bad) HS 0 1 rfl rfl)).1 1 2) 0 1) fun _ => rfl) sc24 rfl) ?_
  refine RT.lt rfl rfl rfl rfl (fun w' k => r_mv (v := iv i) rfl) ?_
  refine RT.lt rfl rfl rfl rfl (fun w' k => r_mv (v := .pointer (some ⟨g_r, 0, none⟩)) rfl) ?_
  refine RT.lt rfl rfl rfl rfl (fun w' k => r_mv (v := .pointer (some ⟨g_r, 0, none⟩)) rfl) ?_
  refine RT.lt rfl rfl rfl rfl (fun w' k => r_nc (HS.boxAt 0 rfl) rfl) ?_
  refine RT.lt rfl rfl rfl rfl (fun w' k => r_fa (HS.boxAt 0 rfl) fd91_1 rfl) ?_
  refine RT.lt rfl rfl rfl rfl (fun w' k => r_fa ((HS.boxAt 0 rfl).seg 1 2) fd27_0 rfl) ?_
  refine RT.lt rfl rfl rfl rfl (fun w' k => r_ld (exGet (exSeg (exSeg (k.phi (Phi.of (f := (fun (a : Bool × Bool) => [iv r_vars, v_r_Nodes, v_r_Next, .bool a.1, .bool a.2])) (r_changed, r_bad) HS 0 1 rfl rfl)).1 1 2) 0 1) fun _ => rfl) sc24 rfl) ?_
  refine RT.lt rfl rfl rfl rfl (fun w' k => r_mv (v := iv i) rfl) ?_
  replace h := grd_some h; obtain ⟨g5, h⟩ := h
  refine RT.lt rfl rfl rfl rfl (fun w' k => r_ian HS (k := 1) rfl sl24 g5.1 g5.2 rfl rfl) ?_
  refine RT.lt rfl rfl rfl rfl (fun w' k => r_fa (HS.nsAt 1 rfl (i := i.toNat) (by omega)) fd72_3 rfl) ?_
  refine RT.lt rfl rfl rfl rfl (fun w' k => r_ld (v := iv ((r_Nodes.getD i.toNat dN).2.2.2)) (((HS.nsAt 1 rfl (i := i.toNat) (by omega)).seg 3 1).k0 (Sub.refl _) (k.kp.none rfl)) sc3 rfl) ?_
  replace h := bind_some h; obtain ⟨y6, e7, h⟩ := h
  refine RT.hy rfl rfl rfl rfl rfl (o_cs (vs := [.pointer (some ⟨g_r, 0, none⟩), iv ((r_Nodes.getD i.toNat dN).2.2.2), iv 0]) (c_spec_l20Value HS.self e7) cf125 rfl) (fun _ _ ⟨_, HS2⟩ => km_st HS (Sub.refl _) (HS.kpH HS2) (fun _ h => h) (by kernel_rfl) (fun _ => (Phi.of (f := (fun (a : Bool × Bool) => [iv r_vars, v_r_Nodes, v_r_Next, .bool a.1, .bool a.2])) (y6.2.2.2.1, y6.2.2.2.2) HS2 0 1 rfl rfl))) ?_
  rintro _ w8 ⟨rfl, HS2⟩
  replace HS := HS.from HS2
  refine RT.lt rfl rfl rfl rfl (fun w' k => r_ian HS (k := 1) rfl sl24 g5.1 g5.2 rfl rfl) ?_
  refine RT.lt rfl rfl rfl rfl (fun w' k => r_fa (HS.nsAt 1 rfl (i := i.toNat) (by omega)) fd72_3 rfl) ?_
  refine RT.hy rfl rfl rfl rfl rfl (o_nsf (off := 3) (q := y6.1) (x' := ((y6.2.1.getD i.toNat dN).1, (y6.2.1.getD i.toNat dN).2.1, (y6.2.1.getD i.toNat dN).2.2.1, y6.1)) (HS.sel (G := _ :: _ :: _ :: FR) [1] 0 rfl) g5.1 g5.2 st3 (.inr ⟨rfl, rfl⟩) rfl rfl) (fun _ _ ⟨_, hk, HS2⟩ => km_st HS (Sub.refl _) hk (fun _ h => h) (by kernel_rfl) (fun _ => (Phi.of (f := (fun (a : Bool × Bool) => [iv r_vars, v_r_Nodes, v_r_Next, .bool a.1, .bool a.2])) (y6.2.2.2.1, y6.2.2.2.2) HS2 1 0 rfl rfl))) ?_
  rintro _ w10 ⟨rfl, hk, HS⟩
  refine RT.nil ?_
  obtain rfl := Option.some.inj h
  exact ret0 (.inl rfl) rfl ⟨rfl, (HS.sel (G := _ :: _ :: _ :: FR) [1, 0, 0] 0 rfl)⟩
theorem c_spec_l20Reach {w : World} {H : Hp} {FR : List Ob} {g_r : Nat} {r_vars : Int} {v_r_Nodes : Value} {n_r : Nat} {sh_r : Shp} {r_Nodes : List (List Int × List Int × Int × Int)} {v_r_Next : Value} {r_Next : List Int} {r_changed : Bool} {r_bad : Bool} {z : Int} {i : Int} {value : Int} (HS : St w H w (.bx g_r 91 [iv r_vars, v_r_Nodes, v_r_Next, .bool r_changed, .bool r_bad] :: .pr (NS 72 3 n_r v_r_Nodes sh_r r_Nodes) :: .ow (.sl 3 (.int .i64)) r_Next [v_r_Next] :: FR)) {r : List (List Int × List Int × Int × Int) × List Int × Bool × Bool} (h : F_spec_l20Reach r_vars n_r r_Nodes r_Next r_changed r_bad z i value = some r) : Calls Try.prog 126 [.pointer (some ⟨g_r, 0, none⟩), iv z, iv i, iv value].toArray w (((fun r => PS (.tuple #[]) fun w' => St w H w' (.bx g_r 91 [iv r_vars, v_r_Nodes, v_r_Next, .bool r.2.2.1, .bool r.2.2.2] :: .pr (NS 72 3 n_r v_r_Nodes sh_r r.1) :: .ow (.sl 3 (.int .i64)) r.2.1 [v_r_Next] :: FR)) : (List (List Int × List Int × Int × Int) × List Int × Bool × Bool) → Ending → World → Prop) r) := by
  unfold F_spec_l20Reach at h
  refine calls_ex (n := 34) Try.func126 rfl Try.ntmps126 (Nat.le_of_ble_eq_true rfl) ?_
  refine ex_dr (Mm H [22]) (Phi g_r (fun (a : Bool × Bool) => [iv r_vars, v_r_Nodes, v_r_Next, .bool a.1, .bool a.2]) v_r_Nodes n_r sh_r) [0, 1, 3, 7, 15, 0, 63, 127, 255, 0, 0, 0, 2048, 6144, 14336, 30720, 0, 129024, 260096, 522240, 0, 2095104, 4192256, 0, 16776192, 33554431, 67108863] [24, 26] (.op 0 (.op 1 (.op 2 (.op 3 (.op 4 (.op 5 (.op 6 (.op 7 (.op 8 (.op 9 (.op 10 (.op 11 (.op 12 (.op 13 (.op 14 (.op 15 (.op 16 (.op 17 (.op 18 (.op 19 (.op 20 (.op 21 (.op 22 (.op 23 (.op 24 (.op 25 (.op 26 .nil))))))))))))))))))))))))))) mix (by kernel_rfl) (by kernel_rfl) ?_
  intro w4 hw hb; have HS := HS.ext hb; clear hw hb
  refine RT.lt rfl rfl rfl rfl (fun w' k => r_mv (v := .pointer (some ⟨g_r, 0, none⟩)) rfl) ?_
  refine RT.lt rfl rfl rfl rfl (fun w' k => r_nc (HS.boxAt 0 rfl) rfl) ?_
  refine RT.lt rfl rfl rfl rfl (fun w' k => r_fa (HS.boxAt 0 rfl) fd91_1 rfl) ?_
  refine RT.lt rfl rfl rfl rfl (fun w' k => r_fa ((HS.boxAt 0 rfl).seg 1 2) fd27_0 rfl) ?_
  refine RT.lt rfl rfl rfl rfl (fun w' k => r_ld (exGet (exSeg (exSeg (k.phi (Phi.of (f := (fun (a : Bool × Bool) => [iv r_vars, v_r_Nodes, v_r_Next, .bool a.1, .bool a.2])) (r_changed, r_bad) HS 0 1 rfl rfl)).1 1 2) 0 1) fun _ => rfl) sc24 rfl) ?_
  refine RT.lt rfl rfl rfl rfl (fun w' k => r_mv (v := iv i) rfl) ?_
  replace h := grd_some h; obtain ⟨g5, h⟩ := h
  refine RT.lt rfl rfl rfl rfl (fun w' k => r_ian HS (k := 1) rfl sl24 g5.1 g5.2 rfl rfl) ?_
  refine RT.lt rfl rfl rfl rfl (fun w' k => r_fa (HS.nsAt 1 rfl (i := i.toNat) (by omega)) fd72_1 rfl) ?_
  refine RT.lt rfl rfl rfl rfl (fun w' k => r_ld (v := (sh_r i.toNat).2) (((k.phi (Phi.of (f := (fun (a : Bool × Bool) => [iv r_vars, v_r_Nodes, v_r_Next, .bool a.1, .bool a.2])) (r_changed, r_bad) HS 0 1 rfl rfl)).2 i.toNat (by omega)).seg 1 1) sc25 rfl) ?_
  refine RT.lt rfl rfl rfl rfl (fun w' k => r_mv (v := iv z) rfl) ?_
  refine RT.lt rfl rfl rfl rfl (fun w' k => r_mv (v := .pointer (some ⟨g_r, 0, none⟩)) rfl) ?_
  refine RT.lt rfl rfl rfl rfl (fun w' k => r_mv (v := .pointer (some ⟨g_r, 0, none⟩)) rfl) ?_
  refine RT.lt rfl rfl rfl rfl (fun w' k => r_nc (HS.boxAt 0 rfl) rfl) ?_
  refine RT.lt rfl rfl rfl rfl (fun w' k => r_fa (HS.boxAt 0 rfl) fd91_1 rfl) ?_
  refine RT.lt rfl rfl rfl rfl (fun w' k => r_fa ((HS.boxAt 0 rfl).seg 1 2) fd27_0 rfl) ?_
  refine RT.lt rfl rfl rfl rfl (fun w' k => r_ld (exGet (exSeg (exSeg (k.phi (Phi.of (f := (fun (a : Bool × Bool) => [iv r_vars, v_r_Nodes, v_r_Next, .bool a.1, .bool a.2])) (r_changed, r_bad) HS 0 1 rfl rfl)).1 1 2) 0 1) fun _ => rfl) sc24 rfl) ?_
  refine RT.lt rfl rfl rfl rfl (fun w' k => r_mv (v := iv i) rfl) ?_
  refine RT.lt rfl rfl rfl rfl (fun w' k => r_ian HS (k := 1) rfl sl24 g5.1 g5.2 rfl rfl) ?_
  refine RT.lt rfl rfl rfl rfl (fun w' k => r_fa (HS.nsAt 1 rfl (i := i.toNat) (by omega)) fd72_1 rfl) ?_
  refine RT.lt rfl rfl rfl rfl (fun w' k => r_ld (v := (sh_r i.toNat).2) (((k.phi (Phi.of (f := (fun (a : Bool × Bool) => [iv r_vars, v_r_Nodes, v_r_Next, .bool a.1, .bool a.2])) (r_changed, r_bad) HS 0 1 rfl rfl)).2 i.toNat (by omega)).seg 1 1) sc25 rfl) ?_
  refine RT.lt rfl rfl rfl rfl (fun w' k => r_mv (v := iv z) rfl) ?_
  replace h := grd_some h; obtain ⟨g6, h⟩ := h
  refine RT.lt rfl rfl rfl rfl (fun w' k => r_ia (HS.nsR2 1 rfl (i := i.toNat) (by omega)) sl25 g6.1 g6.2 rfl rfl) ?_
  refine RT.lt rfl rfl rfl rfl (fun w' k => r_ld (((HS.nsR2 1 rfl (i := i.toNat) (by omega)).int g6.1 g6.2).k0 (Sub.refl _) (k.kp.none rfl)) sc3 rfl) ?_
  refine RT.lt rfl rfl rfl rfl (fun w' k => r_mv (v := iv value) rfl) ?_
  replace h := bind_some h; obtain ⟨y7, e8, h⟩ := h
  refine RT.hy rfl rfl rfl rfl rfl (o_cs (vs := [.pointer (some ⟨g_r, 0, none⟩), iv (((r_Nodes.getD i.toNat dN).2.1).getD z.toNat 0), iv value]) (c_spec_l20Value HS.self e8) cf125 rfl) (fun _ _ ⟨_, HS2⟩ => km_st HS (Sub.refl _) (HS.kpH HS2) (fun _ h => h) (by kernel_rfl) (fun _ => (Phi.of (f := (fun (a : Bool × Bool) => [iv r_vars, v_r_Nodes, v_r_Next, .bool a.1, .bool a.2])) (y7.2.2.2.1, y7.2.2.2.2) HS2 0 1 rfl rfl))) ?_
  rintro _ w9 ⟨rfl, HS2⟩
  replace HS := HS.from HS2
  replace h := grd_some h; obtain ⟨g11, h⟩ := h
  refine RT.lt rfl rfl rfl rfl (fun w' k => r_ia (HS.nsR2 1 rfl (i := i.toNat) (by omega)) sl25 g11.1 g11.2 rfl rfl) ?_
  refine RT.hy rfl rfl rfl rfl rfl (o_nsr (z := z) (q := y7.1) (x' := ((y7.2.1.getD i.toNat dN).1, (y7.2.1.getD i.toNat dN).2.1.set z.toNat y7.1, (y7.2.1.getD i.toNat dN).2.2)) (HS.sel (G := _ :: _ :: _ :: FR) [1] 0 rfl) g5.1 g5.2 st3 (.inr ⟨rfl, g11.2, rfl⟩) g11.1 rfl rfl) (fun _ _ ⟨_, hk, HS2⟩ => km_st HS (Sub.refl _) hk (fun _ h => h) (by kernel_rfl) (fun _ => (Phi.of (f := (fun (a : Bool × Bool) => [iv r_vars, v_r_Nodes, v_r_Next, .bool a.1, .bool a.2])) (y7.2.2.2.1, y7.2.2.2.2) HS2 1 0 rfl rfl))) ?_
  rintro _ w12 ⟨rfl, hk, HS⟩
  refine RT.nil ?_
  obtain rfl := Option.some.inj h
  exact ret0 (.inl rfl) rfl ⟨rfl, (HS.sel (G := _ :: _ :: _ :: FR) [1, 0, 0] 0 rfl)⟩
theorem c_spec_l20Vars {w : World} {H : Hp} {FR : List Ob} {g_c : Nat} {c_vars : Int} {v_c_Nodes : Value} {n_c : Nat} {sh_c : Shp} {c_Nodes : List (List Int × List Int × Int × Int)} {v_c_Next : Value} {c_Next : List Int} {c_changed : Bool} {c_bad : Bool} (HS : St w H w (.bx g_c 91 [iv c_vars, v_c_Nodes, v_c_Next, .bool c_changed, .bool c_bad] :: .pr (NS 72 3 n_c v_c_Nodes sh_c c_Nodes) :: .ow (.sl 3 (.int .i64)) c_Next [v_c_Next] :: FR)) {r : List (List Int × List Int × Int × Int) × List Int × Bool × Bool} (h : F_spec_l20Vars c_vars n_c c_Nodes c_Next c_changed c_bad = some r) : Calls Try.prog 75 [.pointer (some ⟨g_c, 0, none⟩)].toArray w (((fun r => PS (.tuple #[]) fun w' => St w H w' (.bx g_c 91 [iv c_vars, v_c_Nodes, v_c_Next, .bool r.2.2.1, .bool r.2.2.2] :: .pr (NS 72 3 n_c v_c_Nodes sh_c r.1) :: .ow (.sl 3 (.int .i64)) r.2.1 [v_c_Next] :: FR)) : (List (List Int × List Int × Int × Int) × List Int × Bool × Bool) → Ending → World → Prop) r) := by
  unfold F_spec_l20Vars at h
  refine calls_ex (n := 137) Try.func75 rfl Try.ntmps75 (Nat.le_of_ble_eq_true rfl) ?_
  refine ex_seq ?_
  refine ex_region ?_
  refine ro_lt (r_mv (v := .pointer (some ⟨g_c, 0, none⟩)) rfl) rfl ?_
  refine ro_lt (r_nc (HS.boxAt 0 rfl) rfl) rfl ?_
  refine ro_lt (r_fa (HS.boxAt 0 rfl) fd91_1 rfl) rfl ?_
  refine ro_lt (r_fa ((HS.boxAt 0 rfl).seg 1 2) fd27_0 rfl) rfl ?_
  refine ro_lt (r_ld (((HS.boxAt 0 rfl).seg 1 2).seg 0 1) sc24 rfl) rfl ?_
  have b4 := HS.nsBig 1 rfl
  refine ro_lt (r_lenn (m := 4) HS (k := 1) rfl sl24 rfl) rfl ?_
  refine ro_lt (r_as (v := iv ((n_c : Int))) rfl) rfl ?_
  refine RO.nil (nx ?_)
  refine ex_seq ?_
  refine ex_seq ?_
  refine ex_region ?_
  refine ro_lt (r_as (v := iv 0) rfl) rfl ?_
  refine RO.nil (nx ?_)
  replace h := bind_some h; obtain ⟨y70, e71, h⟩ := h
  refine ex_lbo (fun (st : Bool × Bool × (List (List Int × List Int × Int × Int)) × (List Int) × Int) s' w' => Has s' [(0, .pointer (some ⟨g_c, 0, none⟩)), (2, iv ((n_c : Int))), (3, iv st.2.2.2.2)] ∧ St w H w' (.bx g_c 91 [iv c_vars, v_c_Nodes, v_c_Next, .bool st.1, .bool st.2.1] :: .pr (NS 72 3 n_c v_c_Nodes sh_c st.2.2.1) :: .ow (.sl 3 (.int .i64)) st.2.2.2.1 [v_c_Next] :: FR)) e71 ⟨⟨rfl, rfl, rfl, trivial⟩, HS⟩ ?_ ?_
  · rintro ⟨changed_14, bad_15, Nodes_16, Next_17, p_18⟩ c' s' w19 ⟨hs_, HS⟩ h
    rw [has_put hs_]; clear hs_
    try dsimp only at HS
    replace h : F_spec_l20Vars_b3 c_vars n_c changed_14 bad_15 Nodes_16 Next_17 p_18 = some c' := h
    unfold F_spec_l20Vars_b3 at h
    refine ex_seq ?_
    refine ex_seq ?_
    refine ex_region ?_
    refine ro_lt (r_mv (v := iv p_18) rfl) rfl ?_
    refine ro_lt (r_mv (v := .pointer (some ⟨g_c, 0, none⟩)) rfl) rfl ?_
    refine ro_lt (r_nc (HS.boxAt 0 rfl) rfl) rfl ?_
    refine ro_lt (r_fa (HS.boxAt 0 rfl) fd91_0 rfl) rfl ?_
    refine ro_lt (r_ld ((HS.boxAt 0 rfl).seg 0 1) sc3 rfl) rfl ?_
    refine ro_lt (r_lss rfl rfl) rfl ?_
    refine RO.nil (nx ?_)
    replace h := ite_some h; rcases h with ⟨c20, h⟩ | ⟨c20, h⟩
    rotate_left
    · refine ex_if_f rfl (decide_eq_false c20) ?_
      refine ex_exit (tq_exit ?_)
      obtain rfl := Option.some.inj h
      exact lq_out ⟨⟨rfl, rfl, rfl, trivial⟩, HS⟩
    refine ex_if_t rfl (decide_eq_true c20) ?_
    refine ex_skip (nx ?_)
    refine ex_seq ?_
    refine ex_block ?_
    refine ex_seq ?_
    refine ex_region ?_
    refine ro_lt (r_as (v := iv 0) rfl) rfl ?_
    refine RO.nil (nx ?_)
    replace h := bind_some h; obtain ⟨y66, e67, h⟩ := h
    refine ex_lbo (fun (st : Bool × Bool × (List (List Int × List Int × Int × Int)) × (List Int) × Int) s' w' => Has s' [(0, .pointer (some ⟨g_c, 0, none⟩)), (2, iv ((n_c : Int))), (3, iv p_18), (4, iv st.2.2.2.2)] ∧ St w H w' (.bx g_c 91 [iv c_vars, v_c_Nodes, v_c_Next, .bool st.1, .bool st.2.1] :: .pr (NS 72 3 n_c v_c_Nodes sh_c st.2.2.1) :: .ow (.sl 3 (.int .i64)) st.2.2.2.1 [v_c_Next] :: FR)) e67 ⟨⟨rfl, rfl, rfl, rfl, trivial⟩, HS⟩ ?_ ?_
    · rintro ⟨changed_23, bad_24, Nodes_25, Next_26, e_27⟩ c' s' w28 ⟨hs_, HS⟩ h
      rw [has_put hs_]; clear hs_
      try dsimp only at HS
      replace h : F_spec_l20Vars_b2 n_c p_18 c_vars changed_23 bad_24 Nodes_25 Next_26 e_27 = some c' := h
      unfold F_spec_l20Vars_b2 at h
      refine ex_seq ?_
      refine ex_seq ?_
      refine ex_region ?_
      refine ro_lt (r_mv (v := iv e_27) rfl) rfl ?_
      refine ro_lt (r_mv (v := iv ((n_c : Int))) rfl) rfl ?_
      refine ro_lt (r_lss rfl rfl) rfl ?_
      refine ro_lt (r_mv (v := .bool ((decide (e_27 < (n_c : Int))))) rfl) rfl ?_
      replace h := ite_some h; rcases h with ⟨c29, h⟩ | ⟨c29, h⟩
      rotate_left
      · refine ro_off (sb (decide_eq_false c29)) rfl rfl ?_
        refine ro_off (sb (decide_eq_false c29)) rfl rfl ?_
        refine ro_off (sb (decide_eq_false c29)) rfl rfl ?_
        refine ro_off (sb (decide_eq_false c29)) rfl rfl ?_
        refine ro_off (sb (decide_eq_false c29)) rfl rfl ?_
        refine ro_lt (r_pickf (v := .bool false) (decide_eq_false c29) rfl rfl) rfl ?_
        refine RO.nil (nx ?_)
        refine ex_if_f rfl (rfl) ?_
        refine ex_exit (tq_exit ?_)
        obtain rfl := Option.some.inj h
        exact lq_out ⟨⟨rfl, rfl, rfl, rfl, trivial⟩, HS⟩
      refine ro_on (sb (decide_eq_true c29)) ?_
      refine ro_lt (r_mv (v := .pointer (some ⟨g_c, 0, none⟩)) rfl) rfl ?_
      refine ro_on (sb (decide_eq_true c29)) ?_
      refine ro_lt (r_nc (HS.boxAt 0 rfl) rfl) rfl ?_
      refine ro_on (sb (decide_eq_true c29)) ?_
      refine ro_lt (r_fa (HS.boxAt 0 rfl) fd91_3 rfl) rfl ?_
      refine ro_on (sb (decide_eq_true c29)) ?_
      refine ro_lt (r_ld ((HS.boxAt 0 rfl).seg 4 1) sc4 rfl) rfl ?_
      refine ro_on (sb (decide_eq_true c29)) ?_
      refine ro_lt (r_not rfl) rfl ?_
      refine ro_lt (r_pickt (v := .bool ((!bad_24))) (decide_eq_true c29) rfl rfl) rfl ?_
      refine RO.nil (nx ?_)
      replace h := ite_some h; rcases h with ⟨c30, h⟩ | ⟨c30, h⟩
      · refine ex_if_f rfl (congrArg (!·) (c30)) ?_
        refine ex_exit (tq_exit ?_)
        obtain rfl := Option.some.inj h
        exact lq_out ⟨⟨rfl, rfl, rfl, rfl, trivial⟩, HS⟩
      refine ex_if_t rfl (congrArg (!·) (bf c30)) ?_
      refine ex_skip (nx ?_)
      refine ex_seq ?_
      refine ex_block ?_
      refine ex_seq ?_
      refine ex_seq ?_
      refine ex_region ?_
      refine ro_lt (r_mv (v := .pointer (some ⟨g_c, 0, none⟩)) rfl) rfl ?_
      refine ro_lt (r_nc (HS.boxAt 0 rfl) rfl) rfl ?_
      refine ro_lt (r_fa (HS.boxAt 0 rfl) fd91_1 rfl) rfl ?_
      refine ro_lt (r_fa ((HS.boxAt 0 rfl).seg 1 2) fd27_0 rfl) rfl ?_
      refine ro_lt (r_ld (((HS.boxAt 0 rfl).seg 1 2).seg 0 1) sc24 rfl) rfl ?_
      refine ro_lt (r_mv (v := iv e_27) rfl) rfl ?_
      replace h := grd_some h; obtain ⟨g31, h⟩ := h
      refine ro_lt (r_ian HS (k := 1) rfl sl24 g31.1 g31.2 rfl rfl) rfl ?_
      refine ro_lt (r_fa (HS.nsAt 1 rfl (i := e_27.toNat) (by omega)) fd72_0 rfl) rfl ?_
      refine ro_lt (r_ld (v := (sh_c e_27.toNat).1) ((HS.nsAt 1 rfl (i := e_27.toNat) (by omega)).seg 0 1) sc25 rfl) rfl ?_
      refine ro_lt (r_mv (v := iv p_18) rfl) rfl ?_
      replace h := grd_some h; obtain ⟨g32, h⟩ := h
      refine ro_lt (r_ia (HS.nsR1 1 rfl (i := e_27.toNat) (by omega)) sl25 g32.1 g32.2 rfl rfl) rfl ?_
      refine ro_lt (r_ld ((HS.nsR1 1 rfl (i := e_27.toNat) (by omega)).int g32.1 g32.2) sc3 rfl) rfl ?_
      refine ro_lt (r_neq rfl rfl) rfl ?_
      refine RO.nil (nx ?_)
      replace h := ite_some h; rcases h with ⟨c33, h⟩ | ⟨c33, h⟩
      rotate_left
      · refine ex_if_t rfl (congrArg (!·) (decide_eq_false c33)) ?_
        refine ex_exit (tq_exit (blk_exit (nx ?_)))
        refine ex_region ?_
        refine ro_lt (r_mv (v := iv e_27) rfl) rfl ?_
        refine ro_lt (r_addw rfl rfl) rfl ?_
        refine ro_lt (r_as (v := iv (wi (e_27 + 1))) rfl) rfl ?_
        refine RO.nil ?_
        obtain rfl := Option.some.inj h
        exact lq_go ⟨⟨rfl, rfl, rfl, rfl, trivial⟩, HS⟩
      refine ex_if_f rfl (congrArg (!·) (decide_eq_true c33)) ?_
      refine ex_skip (nx ?_)
      refine ex_seq ?_
      refine ex_region ?_
      refine ro_lt (r_mv (v := .pointer (some ⟨g_c, 0, none⟩)) rfl) rfl ?_
      refine ro_lt (r_mv (v := iv e_27) rfl) rfl ?_
      replace h := bind_some h; obtain ⟨y34, e35, h⟩ := h
      refine ro_hy (o_cs (vs := [.pointer (some ⟨g_c, 0, none⟩), iv e_27]) (c_spec_l20One HS.self e35) cf124 rfl) rfl ?_
      rintro _ w36 ⟨rfl, HS2⟩
      replace HS := HS.from HS2
      refine RO.nil (nx ?_)
      refine ex_seq ?_
      refine ex_seq ?_
      refine ex_region ?_
      refine ro_lt (r_as (v := iv 0) rfl) rfl ?_
      refine RO.nil (nx ?_)
      replace h := bind_some h; obtain ⟨y58, e59, h⟩ := h
      refine ex_lbo (fun (st : Bool × Bool × (List (List Int × List Int × Int × Int)) × (List Int) × Int) s' w' => Has s' [(0, .pointer (some ⟨g_c, 0, none⟩)), (2, iv ((n_c : Int))), (3, iv p_18), (4, iv e_27), (5, iv st.2.2.2.2)] ∧ St w H w' (.bx g_c 91 [iv c_vars, v_c_Nodes, v_c_Next, .bool st.1, .bool st.2.1] :: .pr (NS 72 3 n_c v_c_Nodes sh_c st.2.2.1) :: .ow (.sl 3 (.int .i64)) st.2.2.2.1 [v_c_Next] :: FR)) e59 ⟨⟨rfl, rfl, rfl, rfl, rfl, trivial⟩, HS⟩ ?_ ?_
      · rintro ⟨changed_40, bad_41, Nodes_42, Next_43, n_44⟩ c' s' w45 ⟨hs_, HS⟩ h
        rw [has_put hs_]; clear hs_
        try dsimp only at HS
        replace h : F_spec_l20Vars_b1 n_c e_27 p_18 c_vars changed_40 bad_41 Nodes_42 Next_43 n_44 = some c' := h
        unfold F_spec_l20Vars_b1 at h
        refine ex_seq ?_
        refine ex_seq ?_
        refine ex_region ?_
        refine ro_lt (r_mv (v := iv n_44) rfl) rfl ?_
        refine ro_lt (r_mv (v := iv ((n_c : Int))) rfl) rfl ?_
        refine ro_lt (r_lss rfl rfl) rfl ?_
        refine RO.nil (nx ?_)
        replace h := ite_some h; rcases h with ⟨c46, h⟩ | ⟨c46, h⟩
        rotate_left
        · refine ex_if_f rfl (decide_eq_false c46) ?_
          refine ex_exit (tq_exit ?_)
          obtain rfl := Option.some.inj h
          exact lq_out ⟨⟨rfl, rfl, rfl, rfl, rfl, trivial⟩, HS⟩
        refine ex_if_t rfl (decide_eq_true c46) ?_
        refine ex_skip (nx ?_)
        refine ex_seq ?_
        refine ex_block ?_
        refine ex_seq ?_
        refine ex_region ?_
        refine ro_lt (r_mv (v := iv n_44) rfl) rfl ?_
        refine ro_lt (r_mv (v := iv e_27) rfl) rfl ?_
        refine ro_lt (r_neq rfl rfl) rfl ?_
        refine RO.nil (nx ?_)
        replace h := ite_some h; rcases h with ⟨c47, h⟩ | ⟨c47, h⟩
        · refine ex_if_f rfl (congrArg (!·) (decide_eq_true c47)) ?_
          refine ex_skip (blk_nx (nx ?_))
          refine ex_region ?_
          refine ro_lt (r_mv (v := iv n_44) rfl) rfl ?_
          refine ro_lt (r_addw rfl rfl) rfl ?_
          refine ro_lt (r_as (v := iv (wi (n_44 + 1))) rfl) rfl ?_
          refine RO.nil ?_
          obtain rfl := Option.some.inj h
          exact lq_go ⟨⟨rfl, rfl, rfl, rfl, rfl, trivial⟩, HS⟩
        refine ex_if_t rfl (congrArg (!·) (decide_eq_false c47)) ?_
        refine ex_dr (Mm H [22]) (Phi g_c (fun (a : Bool × Bool) => [iv c_vars, v_c_Nodes, v_c_Next, .bool a.1, .bool a.2]) v_c_Nodes n_c sh_c) [0, 1, 3, 7, 15, 0, 63, 127, 255, 0, 0, 0, 2048, 6144, 14336, 30720, 0, 129024, 260096, 522240, 0, 2095104, 4192256, 8387584, 16777215, 33554431] [23, 25] (.op 0 (.op 1 (.op 2 (.op 3 (.op 4 (.op 5 (.op 6 (.op 7 (.op 8 (.op 9 (.op 10 (.op 11 (.op 12 (.op 13 (.op 14 (.op 15 (.op 16 (.op 17 (.op 18 (.op 19 (.op 20 (.op 21 (.op 22 (.op 23 (.op 24 (.op 25 .nil)))))))))))))))))))))))))) mix (by kernel_rfl) (by kernel_rfl) ?_
        intro w48 hw hb; have HS := HS.ext hb; clear hw hb
        refine RT.lt rfl rfl rfl rfl (fun w' k => r_mv (v := .pointer (some ⟨g_c, 0, none⟩)) rfl) ?_
        refine RT.lt rfl rfl rfl rfl (fun w' k => r_nc (HS.boxAt 0 rfl) rfl) ?_
        refine RT.lt rfl rfl rfl rfl (fun w' k => r_fa (HS.boxAt 0 rfl) fd91_1 rfl) ?_
        refine RT.lt rfl rfl rfl rfl (fun w' k => r_fa ((HS.boxAt 0 rfl).seg 1 2) fd27_0 rfl) ?_
        refine RT.lt rfl rfl rfl rfl (fun w' k => r_ld (exGet (exSeg (exSeg (k.phi (Phi.of (f := (fun (a : Bool × Bool) => [iv c_vars, v_c_Nodes, v_c_Next, .bool a.1, .bool a.2])) (changed_40, bad_41) HS 0 1 rfl rfl)).1 1 2) 0 1) fun _ => rfl) sc24 rfl) ?_
        refine RT.lt rfl rfl rfl rfl (fun w' k => r_mv (v := iv n_44) rfl) ?_
        replace h := grd_some h; obtain ⟨g49, h⟩ := h
        refine RT.lt rfl rfl rfl rfl (fun w' k => r_ian HS (k := 1) rfl sl24 g49.1 g49.2 rfl rfl) ?_
        refine RT.lt rfl rfl rfl rfl (fun w' k => r_fa (HS.nsAt 1 rfl (i := n_44.toNat) (by omega)) fd72_0 rfl) ?_
        refine RT.lt rfl rfl rfl rfl (fun w' k => r_ld (v := (sh_c n_44.toNat).1) (((k.phi (Phi.of (f := (fun (a : Bool × Bool) => [iv c_vars, v_c_Nodes, v_c_Next, .bool a.1, .bool a.2])) (changed_40, bad_41) HS 0 1 rfl rfl)).2 n_44.toNat (by omega)).seg 0 1) sc25 rfl) ?_
        refine RT.lt rfl rfl rfl rfl (fun w' k => r_mv (v := iv p_18) rfl) ?_
        refine RT.lt rfl rfl rfl rfl (fun w' k => r_mv (v := .pointer (some ⟨g_c, 0, none⟩)) rfl) ?_
        refine RT.lt rfl rfl rfl rfl (fun w' k => r_mv (v := .pointer (some ⟨g_c, 0, none⟩)) rfl) ?_
        refine RT.lt rfl rfl rfl rfl (fun w' k => r_nc (HS.boxAt 0 rfl) rfl) ?_
        refine RT.lt rfl rfl rfl rfl (fun w' k => r_fa (HS.boxAt 0 rfl) fd91_1 rfl) ?_
        refine RT.lt rfl rfl rfl rfl (fun w' k => r_fa ((HS.boxAt 0 rfl).seg 1 2) fd27_0 rfl) ?_
        refine RT.lt rfl rfl rfl rfl (fun w' k => r_ld (exGet (exSeg (exSeg (k.phi (Phi.of (f := (fun (a : Bool × Bool) => [iv c_vars, v_c_Nodes, v_c_Next, .bool a.1, .bool a.2])) (changed_40, bad_41) HS 0 1 rfl rfl)).1 1 2) 0 1) fun _ => rfl) sc24 rfl) ?_
        refine RT.lt rfl rfl rfl rfl (fun w' k => r_mv (v := iv n_44) rfl) ?_
        refine RT.lt rfl rfl rfl rfl (fun w' k => r_ian HS (k := 1) rfl sl24 g49.1 g49.2 rfl rfl) ?_
        refine RT.lt rfl rfl rfl rfl (fun w' k => r_fa (HS.nsAt 1 rfl (i := n_44.toNat) (by omega)) fd72_0 rfl) ?_
        refine RT.lt rfl rfl rfl rfl (fun w' k => r_ld (v := (sh_c n_44.toNat).1) (((k.phi (Phi.of (f := (fun (a : Bool × Bool) => [iv c_vars, v_c_Nodes, v_c_Next, .bool a.1, .bool a.2])) (changed_40, bad_41) HS 0 1 rfl rfl)).2 n_44.toNat (by omega)).seg 0 1) sc25 rfl) ?_
        refine RT.lt rfl rfl rfl rfl (fun w' k => r_mv (v := iv p_18) rfl) ?_
        replace h := grd_some h; obtain ⟨g50, h⟩ := h
        refine RT.lt rfl rfl rfl rfl (fun w' k => r_ia (HS.nsR1 1 rfl (i := n_44.toNat) (by omega)) sl25 g50.1 g50.2 rfl rfl) ?_
        refine RT.lt rfl rfl rfl rfl (fun w' k => r_ld (((HS.nsR1 1 rfl (i := n_44.toNat) (by omega)).int g50.1 g50.2).k0 (Sub.refl _) (k.kp.none rfl)) sc3 rfl) ?_
        replace h := bind_some h; obtain ⟨y51, e52, h⟩ := h
        refine RT.hy rfl rfl rfl rfl rfl (o_cs (vs := [.pointer (some ⟨g_c, 0, none⟩), iv (((Nodes_42.getD n_44.toNat dN).1).getD p_18.toNat 0), iv 0]) (c_spec_l20Value HS.self e52) cf125 rfl) (fun _ _ ⟨_, HS2⟩ => km_st HS (Sub.refl _) (HS.kpH HS2) (fun _ h => h) (by kernel_rfl) (fun _ => (Phi.of (f := (fun (a : Bool × Bool) => [iv c_vars, v_c_Nodes, v_c_Next, .bool a.1, .bool a.2])) (y51.2.2.2.1, y51.2.2.2.2) HS2 0 1 rfl rfl))) ?_
        rintro _ w53 ⟨rfl, HS2⟩
        replace HS := HS.from HS2
        replace h := grd_some h; obtain ⟨g55, h⟩ := h
        refine RT.lt rfl rfl rfl rfl (fun w' k => r_ia (HS.nsR1 1 rfl (i := n_44.toNat) (by omega)) sl25 g55.1 g55.2 rfl rfl) ?_
        refine RT.hy rfl rfl rfl rfl rfl (o_nsr (z := p_18) (q := y51.1) (x' := ((y51.2.1.getD n_44.toNat dN).1.set p_18.toNat y51.1, (y51.2.1.getD n_44.toNat dN).2)) (HS.sel (G := _ :: _ :: _ :: FR) [1] 0 rfl) g49.1 g49.2 st3 (.inl ⟨rfl, g55.2, rfl⟩) g55.1 rfl rfl) (fun _ _ ⟨_, hk, HS2⟩ => km_st HS (Sub.refl _) hk (fun _ h => h) (by kernel_rfl) (fun _ => (Phi.of (f := (fun (a : Bool × Bool) => [iv c_vars, v_c_Nodes, v_c_Next, .bool a.1, .bool a.2])) (y51.2.2.2.1, y51.2.2.2.2) HS2 1 0 rfl rfl))) ?_
        rintro _ w56 ⟨rfl, hk, HS⟩
        refine RT.nil (blk_nx (nx ?_))
        refine ex_region ?_
        refine ro_lt (r_mv (v := iv n_44) rfl) rfl ?_
        refine ro_lt (r_addw rfl rfl) rfl ?_
        refine ro_lt (r_as (v := iv (wi (n_44 + 1))) rfl) rfl ?_
        refine RO.nil ?_
        obtain rfl := Option.some.inj h
        exact lq_go ⟨⟨rfl, rfl, rfl, rfl, rfl, trivial⟩, (HS.sel (G := _ :: _ :: _ :: FR) [1, 0, 0] 0 rfl)⟩
      rintro s' w60 ⟨hs_, HS⟩
      rw [has_put hs_]; clear hs_
      refine (nx ?_)
      refine ex_region ?_
      refine ro_lt (r_mv (v := .pointer (some ⟨g_c, 0, none⟩)) rfl) rfl ?_
      refine ro_lt (r_mv (v := iv p_18) rfl) rfl ?_
      refine ro_lt (r_mv (v := iv e_27) rfl) rfl ?_
      replace h := bind_some h; obtain ⟨y62, e63, h⟩ := h
      refine ro_hy (o_cs (vs := [.pointer (some ⟨g_c, 0, none⟩), iv p_18, iv e_27, iv 2]) (c_spec_l20Reach HS.self e63) cf126 rfl) rfl ?_
      rintro _ w64 ⟨rfl, HS2⟩
      replace HS := HS.from HS2
      refine RO.nil (blk_nx (nx ?_))
      refine ex_region ?_
      refine ro_lt (r_mv (v := iv e_27) rfl) rfl ?_
      refine ro_lt (r_addw rfl rfl) rfl ?_
      refine ro_lt (r_as (v := iv (wi (e_27 + 1))) rfl) rfl ?_
      refine RO.nil ?_
      obtain rfl := Option.some.inj h
      exact lq_go ⟨⟨rfl, rfl, rfl, rfl, trivial⟩, HS⟩
    rintro s' w68 ⟨hs_, HS⟩
    rw [has_put hs_]; clear hs_
    refine (blk_nx (nx ?_))
    refine ex_region ?_
    refine ro_lt (r_mv (v := iv p_18) rfl) rfl ?_
    refine ro_lt (r_addw rfl rfl) rfl ?_
    refine ro_lt (r_as (v := iv (wi (p_18 + 1))) rfl) rfl ?_
    refine RO.nil ?_
    obtain rfl := Option.some.inj h
    exact lq_go ⟨⟨rfl, rfl, rfl, trivial⟩, HS⟩
  rintro s' w72 ⟨hs_, HS⟩
  rw [has_put hs_]; clear hs_
  refine (nx ?_)
  refine ex_seq ?_
  refine ex_region ?_
  refine ro_lt (r_as (v := iv 0) rfl) rfl ?_
  refine RO.nil (nx ?_)
  replace h := bind_some h; obtain ⟨y122, e123, h⟩ := h
  refine ex_lbo (fun (st : Bool × Bool × (List (List Int × List Int × Int × Int)) × (List Int) × Int) s' w' => Has s' [(0, .pointer (some ⟨g_c, 0, none⟩)), (2, iv ((n_c : Int))), (6, iv st.2.2.2.2)] ∧ St w H w' (.bx g_c 91 [iv c_vars, v_c_Nodes, v_c_Next, .bool st.1, .bool st.2.1] :: .pr (NS 72 3 n_c v_c_Nodes sh_c st.2.2.1) :: .ow (.sl 3 (.int .i64)) st.2.2.2.1 [v_c_Next] :: FR)) e123 ⟨⟨rfl, rfl, rfl, trivial⟩, HS⟩ ?_ ?_
  · rintro ⟨changed_83, bad_84, Nodes_85, Next_86, d_87⟩ c' s' w88 ⟨hs_, HS⟩ h
    rw [has_put hs_]; clear hs_
    try dsimp only at HS
    replace h : F_spec_l20Vars_b6 c_vars n_c changed_83 bad_84 Nodes_85 Next_86 d_87 = some c' := h
    unfold F_spec_l20Vars_b6 at h
    refine ex_seq ?_
    refine ex_seq ?_
    refine ex_region ?_
    refine ro_lt (r_mv (v := iv d_87) rfl) rfl ?_
    refine ro_lt (r_mv (v := .pointer (some ⟨g_c, 0, none⟩)) rfl) rfl ?_
    refine ro_lt (r_nc (HS.boxAt 0 rfl) rfl) rfl ?_
    refine ro_lt (r_fa (HS.boxAt 0 rfl) fd91_0 rfl) rfl ?_
    refine ro_lt (r_ld ((HS.boxAt 0 rfl).seg 0 1) sc3 rfl) rfl ?_
    refine ro_lt (r_lss rfl rfl) rfl ?_
    refine ro_lt (r_mv (v := .bool ((decide (d_87 < c_vars)))) rfl) rfl ?_
    replace h := ite_some h; rcases h with ⟨c89, h⟩ | ⟨c89, h⟩
    rotate_left
    · refine ro_off (sb (decide_eq_false c89)) rfl rfl ?_
      refine ro_off (sb (decide_eq_false c89)) rfl rfl ?_
      refine ro_off (sb (decide_eq_false c89)) rfl rfl ?_
      refine ro_off (sb (decide_eq_false c89)) rfl rfl ?_
      refine ro_off (sb (decide_eq_false c89)) rfl rfl ?_
      refine ro_lt (r_pickf (v := .bool false) (decide_eq_false c89) rfl rfl) rfl ?_
      refine RO.nil (nx ?_)
      refine ex_if_f rfl (rfl) ?_
      refine ex_exit (tq_exit ?_)
      obtain rfl := Option.some.inj h
      exact lq_out ⟨⟨rfl, rfl, rfl, trivial⟩, HS⟩
    refine ro_on (sb (decide_eq_true c89)) ?_
    refine ro_lt (r_mv (v := .pointer (some ⟨g_c, 0, none⟩)) rfl) rfl ?_
    refine ro_on (sb (decide_eq_true c89)) ?_
    refine ro_lt (r_nc (HS.boxAt 0 rfl) rfl) rfl ?_
    refine ro_on (sb (decide_eq_true c89)) ?_
    refine ro_lt (r_fa (HS.boxAt 0 rfl) fd91_3 rfl) rfl ?_
    refine ro_on (sb (decide_eq_true c89)) ?_
    refine ro_lt (r_ld ((HS.boxAt 0 rfl).seg 4 1) sc4 rfl) rfl ?_
    refine ro_on (sb (decide_eq_true c89)) ?_
    refine ro_lt (r_not rfl) rfl ?_
    refine ro_lt (r_pickt (v := .bool ((!bad_84))) (decide_eq_true c89) rfl rfl) rfl ?_
    refine RO.nil (nx ?_)
    replace h := ite_some h; rcases h with ⟨c90, h⟩ | ⟨c90, h⟩
    · refine ex_if_f rfl (congrArg (!·) (c90)) ?_
      refine ex_exit (tq_exit ?_)
      obtain rfl := Option.some.inj h
      exact lq_out ⟨⟨rfl, rfl, rfl, trivial⟩, HS⟩
    refine ex_if_t rfl (congrArg (!·) (bf c90)) ?_
    refine ex_skip (nx ?_)
    refine ex_seq ?_
    refine ex_block ?_
    refine ex_seq ?_
    refine ex_region ?_
    refine ro_lt (r_as (v := .bool true) rfl) rfl ?_
    refine RO.nil (nx ?_)
    refine ex_seq ?_
    refine ex_seq ?_
    refine ex_region ?_
    refine ro_lt (r_as (v := iv 0) rfl) rfl ?_
    refine RO.nil (nx ?_)
    replace h := bind_some h; obtain ⟨y100, e101, h⟩ := h
    refine ex_lbo (fun (st : Bool × Int) s' w' => Has s' [(0, .pointer (some ⟨g_c, 0, none⟩)), (2, iv ((n_c : Int))), (6, iv d_87), (7, .bool st.1), (8, iv st.2)] ∧ St w H w' (.bx g_c 91 [iv c_vars, v_c_Nodes, v_c_Next, .bool changed_83, .bool bad_84] :: .pr (NS 72 3 n_c v_c_Nodes sh_c Nodes_85) :: .ow (.sl 3 (.int .i64)) Next_86 [v_c_Next] :: FR)) e101 ⟨⟨rfl, rfl, rfl, rfl, rfl, trivial⟩, HS⟩ ?_ ?_
    · rintro ⟨i93, i94⟩ c' s' w95 ⟨hs_, HS⟩ h
      rw [has_put hs_]; clear hs_
      try dsimp only at HS
      replace h : F_spec_l20Vars_b4 n_c d_87 Nodes_85 i93 i94 = some c' := h
      unfold F_spec_l20Vars_b4 at h
      refine ex_seq ?_
      refine ex_seq ?_
      refine ex_region ?_
      refine ro_lt (r_mv (v := iv i94) rfl) rfl ?_
      refine ro_lt (r_mv (v := iv ((n_c : Int))) rfl) rfl ?_
      refine ro_lt (r_lss rfl rfl) rfl ?_
      refine RO.nil (nx ?_)
      replace h := ite_some h; rcases h with ⟨c96, h⟩ | ⟨c96, h⟩
      rotate_left
      · refine ex_if_f rfl (decide_eq_false c96) ?_
        refine ex_exit (tq_exit ?_)
        obtain rfl := Option.some.inj h
        exact lq_out ⟨⟨rfl, rfl, rfl, rfl, rfl, trivial⟩, HS⟩
      refine ex_if_t rfl (decide_eq_true c96) ?_
      refine ex_skip (nx ?_)
      refine ex_seq ?_
      refine ex_block ?_
      refine ex_region ?_
      refine ro_lt (r_mv (v := .bool i93) rfl) rfl ?_
      refine ro_lt (r_mv (v := .bool i93) rfl) rfl ?_
      replace h := ite_some h; rcases h with ⟨c97, h⟩ | ⟨c97, h⟩
      rotate_left
      · refine ro_off (sb (bf c97)) rfl rfl ?_
        refine ro_off (sb (bf c97)) rfl rfl ?_
        refine ro_off (sb (bf c97)) rfl rfl ?_
        refine ro_off (sb (bf c97)) rfl rfl ?_
        refine ro_off (sb (bf c97)) rfl rfl ?_
        refine ro_off (sb (bf c97)) rfl rfl ?_
        refine ro_off (sb (bf c97)) rfl rfl ?_
        refine ro_off (sb (bf c97)) rfl rfl ?_
        refine ro_off (sb (bf c97)) rfl rfl ?_
        refine ro_off (sb (bf c97)) rfl rfl ?_
        refine ro_off (sb (bf c97)) rfl rfl ?_
        refine ro_off (sb (bf c97)) rfl rfl ?_
        refine ro_off (sb (bf c97)) rfl rfl ?_
        refine ro_lt (r_pickf (v := .bool false) (bf c97) rfl rfl) rfl ?_
        refine ro_lt (r_as (v := .bool false) rfl) rfl ?_
        refine RO.nil (blk_nx (nx ?_))
        refine ex_region ?_
        refine ro_lt (r_mv (v := iv i94) rfl) rfl ?_
        refine ro_lt (r_addw rfl rfl) rfl ?_
        refine ro_lt (r_as (v := iv (wi (i94 + 1))) rfl) rfl ?_
        refine RO.nil ?_
        obtain rfl := Option.some.inj h
        exact lq_go ⟨⟨rfl, rfl, rfl, rfl, rfl, trivial⟩, HS⟩
      refine ro_on (sb (c97)) ?_
      refine ro_lt (r_mv (v := .pointer (some ⟨g_c, 0, none⟩)) rfl) rfl ?_
      refine ro_on (sb (c97)) ?_
      refine ro_lt (r_nc (HS.boxAt 0 rfl) rfl) rfl ?_
      refine ro_on (sb (c97)) ?_
      refine ro_lt (r_fa (HS.boxAt 0 rfl) fd91_1 rfl) rfl ?_
      refine ro_on (sb (c97)) ?_
      refine ro_lt (r_fa ((HS.boxAt 0 rfl).seg 1 2) fd27_0 rfl) rfl ?_
      refine ro_on (sb (c97)) ?_
      refine ro_lt (r_ld (((HS.boxAt 0 rfl).seg 1 2).seg 0 1) sc24 rfl) rfl ?_
      refine ro_on (sb (c97)) ?_
      refine ro_lt (r_mv (v := iv i94) rfl) rfl ?_
      replace h := grd_some h; obtain ⟨g98, h⟩ := h
      refine ro_on (sb (c97)) ?_
      refine ro_lt (r_ian HS (k := 1) rfl sl24 g98.1 g98.2 rfl rfl) rfl ?_
      refine ro_on (sb (c97)) ?_
      refine ro_lt (r_fa (HS.nsAt 1 rfl (i := i94.toNat) (by omega)) fd72_0 rfl) rfl ?_
      refine ro_on (sb (c97)) ?_
      refine ro_lt (r_ld (v := (sh_c i94.toNat).1) ((HS.nsAt 1 rfl (i := i94.toNat) (by omega)).seg 0 1) sc25 rfl) rfl ?_
      refine ro_on (sb (c97)) ?_
      refine ro_lt (r_mv (v := iv d_87) rfl) rfl ?_
      replace h := grd_some h; obtain ⟨g99, h⟩ := h
      refine ro_on (sb (c97)) ?_
      refine ro_lt (r_ia (HS.nsR1 1 rfl (i := i94.toNat) (by omega)) sl25 g99.1 g99.2 rfl rfl) rfl ?_
      refine ro_on (sb (c97)) ?_
      refine ro_lt (r_ld ((HS.nsR1 1 rfl (i := i94.toNat) (by omega)).int g99.1 g99.2) sc3 rfl) rfl ?_
      refine ro_on (sb (c97)) ?_
      refine ro_lt (r_eql rfl rfl) rfl ?_
      refine ro_lt (r_pickt (v := .bool ((decide (((Nodes_85.getD i94.toNat dN).1).getD d_87.toNat 0 = 0)))) (c97) rfl rfl) rfl ?_
      refine ro_lt (r_as (v := .bool ((decide (((Nodes_85.getD i94.toNat dN).1).getD d_87.toNat 0 = 0)))) rfl) rfl ?_
      refine RO.nil (blk_nx (nx ?_))
      refine ex_region ?_
      refine ro_lt (r_mv (v := iv i94) rfl) rfl ?_
      refine ro_lt (r_addw rfl rfl) rfl ?_
      refine ro_lt (r_as (v := iv (wi (i94 + 1))) rfl) rfl ?_
      refine RO.nil ?_
      obtain rfl := Option.some.inj h
      exact lq_go ⟨⟨rfl, rfl, rfl, rfl, rfl, trivial⟩, HS⟩
    rintro s' w102 ⟨hs_, HS⟩
    rw [has_put hs_]; clear hs_
    refine (nx ?_)
    refine ex_seq ?_
    refine ex_region ?_
    refine ro_lt (r_as (v := iv 0) rfl) rfl ?_
    refine RO.nil (nx ?_)
    replace h := bind_some h; obtain ⟨y118, e119, h⟩ := h
    refine ex_lbo (fun (st : Bool × Bool × (List (List Int × List Int × Int × Int)) × (List Int) × Int) s' w' => Has s' [(0, .pointer (some ⟨g_c, 0, none⟩)), (2, iv ((n_c : Int))), (6, iv d_87), (7, .bool y100.1), (9, iv st.2.2.2.2)] ∧ St w H w' (.bx g_c 91 [iv c_vars, v_c_Nodes, v_c_Next, .bool st.1, .bool st.2.1] :: .pr (NS 72 3 n_c v_c_Nodes sh_c st.2.2.1) :: .ow (.sl 3 (.int .i64)) st.2.2.2.1 [v_c_Next] :: FR)) e119 ⟨⟨rfl, rfl, rfl, rfl, rfl, trivial⟩, HS⟩ ?_ ?_
    · rintro ⟨changed_106, bad_107, Nodes_108, Next_109, i110⟩ c' s' w111 ⟨hs_, HS⟩ h
      rw [has_put hs_]; clear hs_
      try dsimp only at HS
      replace h : F_spec_l20Vars_b5 n_c y100 c_vars d_87 changed_106 bad_107 Nodes_108 Next_109 i110 = some c' := h
      unfold F_spec_l20Vars_b5 at h
      refine ex_seq ?_
      refine ex_seq ?_
      refine ex_region ?_
      refine ro_lt (r_mv (v := iv i110) rfl) rfl ?_
      refine ro_lt (r_mv (v := iv ((n_c : Int))) rfl) rfl ?_
      refine ro_lt (r_lss rfl rfl) rfl ?_
      refine ro_lt (r_mv (v := .bool ((decide (i110 < (n_c : Int))))) rfl) rfl ?_
      replace h := ite_some h; rcases h with ⟨c112, h⟩ | ⟨c112, h⟩
      rotate_left
      · refine ro_off (sb (decide_eq_false c112)) rfl rfl ?_
        refine ro_lt (r_pickf (v := .bool false) (decide_eq_false c112) rfl rfl) rfl ?_
        refine RO.nil (nx ?_)
        refine ex_if_f rfl (rfl) ?_
        refine ex_exit (tq_exit ?_)
        obtain rfl := Option.some.inj h
        exact lq_out ⟨⟨rfl, rfl, rfl, rfl, rfl, trivial⟩, HS⟩
      refine ro_on (sb (decide_eq_true c112)) ?_
      refine ro_lt (r_mv (v := .bool y100.1) rfl) rfl ?_
      refine ro_lt (r_pickt (v := .bool y100.1) (decide_eq_true c112) rfl rfl) rfl ?_
      refine RO.nil (nx ?_)
      replace h := ite_some h; rcases h with ⟨c113, h⟩ | ⟨c113, h⟩
      rotate_left
      · refine ex_if_f rfl (bf c113) ?_
        refine ex_exit (tq_exit ?_)
        obtain rfl := Option.some.inj h
        exact lq_out ⟨⟨rfl, rfl, rfl, rfl, rfl, trivial⟩, HS⟩
      refine ex_if_t rfl (c113) ?_
      refine ex_skip (nx ?_)
      refine ex_seq ?_
      refine ex_block ?_
      refine ex_region ?_
      refine ro_lt (r_mv (v := .pointer (some ⟨g_c, 0, none⟩)) rfl) rfl ?_
      refine ro_lt (r_mv (v := iv d_87) rfl) rfl ?_
      refine ro_lt (r_mv (v := iv i110) rfl) rfl ?_
      replace h := bind_some h; obtain ⟨y114, e115, h⟩ := h
      refine ro_hy (o_cs (vs := [.pointer (some ⟨g_c, 0, none⟩), iv d_87, iv i110, iv 0]) (c_spec_l20Reach HS.self e115) cf126 rfl) rfl ?_
      rintro _ w116 ⟨rfl, HS2⟩
      replace HS := HS.from HS2
      refine RO.nil (blk_nx (nx ?_))
      refine ex_region ?_
      refine ro_lt (r_mv (v := iv i110) rfl) rfl ?_
      refine ro_lt (r_addw rfl rfl) rfl ?_
      refine ro_lt (r_as (v := iv (wi (i110 + 1))) rfl) rfl ?_
      refine RO.nil ?_
      obtain rfl := Option.some.inj h
      exact lq_go ⟨⟨rfl, rfl, rfl, rfl, rfl, trivial⟩, HS⟩
    rintro s' w120 ⟨hs_, HS⟩
    rw [has_put hs_]; clear hs_
    refine (blk_nx (nx ?_))
    refine ex_region ?_
    refine ro_lt (r_mv (v := iv d_87) rfl) rfl ?_
    refine ro_lt (r_addw rfl rfl) rfl ?_
    refine ro_lt (r_as (v := iv (wi (d_87 + 1))) rfl) rfl ?_
    refine RO.nil ?_
    obtain rfl := Option.some.inj h
    exact lq_go ⟨⟨rfl, rfl, rfl, trivial⟩, HS⟩
  rintro s' w124 ⟨hs_, HS⟩
  rw [has_put hs_]; clear hs_
  obtain rfl := Option.some.inj h
  exact ret0 (.inl rfl) rfl ⟨rfl, HS⟩
theorem c_spec_NextOf {w : World} {s : (List (List Int × List Int × Int × Int)) × List Int} {v_s0 : Value} {v_s1 : Value} {i : Int} {j : Int} (r_s0 : Rd (.sl 72 (.prod (.sl 3 (.int .i64)) (.prod (.sl 3 (.int .i64)) (.prod (.int .i64) (.int .i64))))) (hp w) s.1 [v_s0]) (r_s1 : Rd (.sl 3 (.int .i64)) (hp w) s.2 [v_s1]) {r : Int} (h : F_spec_NextOf s i j = some r) : Calls Try.prog 57 [.agg #[v_s0, v_s1], iv i, iv j].toArray w (P1 (.int .i64) w r) := by
  unfold F_spec_NextOf at h
  have HS := St.init w
  have hs := Sub.refl (hp w)
  refine calls_ex (n := 41) Try.func57 rfl Try.ntmps57 (Nat.le_of_ble_eq_true rfl) ?_
  refine ex_seq ?_
  refine ex_region ?_
  refine ro_hy (o_boxz HS (cs := [v_s0, v_s1]) rfl rfl) rfl ?_
  rintro _ w2 ⟨g1, H5, rfl, q3, l4, hb, HS⟩
  replace r_s0 := r_s0.sub q3
  replace r_s1 := r_s1.sub q3
  replace hs := hs.trans q3
  refine ro_lt (r_as (v := iv 0) rfl) rfl ?_
  refine RO.nil (nx ?_)
  refine ex_seq ?_
  refine ex_region ?_
  refine ro_lt (r_fa (l4.sub HS.sub) fd27_0 rfl) rfl ?_
  refine ro_lt (r_ld ((l4.seg 0 1).sub HS.sub) sc24 rfl) rfl ?_
  have b6 := (r_s0.sub HS.sub).big
  refine ro_lt (r_len (n := 4) (r_s0.sub HS.sub) sl24 rfl) rfl ?_
  refine ro_lt (r_as (v := iv ((s.1.length : Int))) rfl) rfl ?_
  refine RO.nil (nx ?_)
  refine ex_seq ?_
  refine ex_seq ?_
  refine ex_region ?_
  refine ro_lt (r_mv (v := iv i) rfl) rfl ?_
  refine ro_lt (r_mv (v := iv ((s.1.length : Int))) rfl) rfl ?_
  refine ro_lt (r_sub rfl rfl (by omega)) rfl ?_
  replace h := bind_some h; obtain ⟨y7, e8, h⟩ := h
  refine ro_hy (o_cf (vs := [iv i, iv 0, iv ((s.1.length : Int) - 1)]) HS rfl (c_spec_l1In e8) cf64 rfl) rfl ?_
  rintro _ w9 ⟨rfl, hb, HS⟩
  refine ro_lt (r_not rfl) rfl ?_
  refine ro_lt (r_mv (v := .bool ((!y7))) rfl) rfl ?_
  replace h := ite_some h; rcases h with ⟨c10, h⟩ | ⟨c10, h⟩
  rotate_left
  · refine ro_off (sb (congrArg (!·) (bf c10))) rfl rfl ?_
    refine ro_off (sb (congrArg (!·) (bf c10))) rfl rfl ?_
    refine ro_off (sb (congrArg (!·) (bf c10))) rfl rfl ?_
    refine ro_off (sb (congrArg (!·) (bf c10))) rfl rfl ?_
    refine ro_off (sb (congrArg (!·) (bf c10))) rfl rfl ?_
    refine ro_lt (r_pickt (v := .bool true) (congrArg (!·) (bf c10)) rfl rfl) rfl ?_
    refine ro_lt (r_mv (v := .bool true) rfl) rfl ?_
    refine ro_off (sb (rfl)) rfl rfl ?_
    refine ro_off (sb (rfl)) rfl rfl ?_
    refine ro_off (sb (rfl)) rfl rfl ?_
    refine ro_off (sb (rfl)) rfl rfl ?_
    refine ro_off (sb (rfl)) rfl rfl ?_
    refine ro_off (sb (rfl)) rfl rfl ?_
    refine ro_off (sb (rfl)) rfl rfl ?_
    refine ro_lt (r_pickt (v := .bool true) (rfl) rfl rfl) rfl ?_
    refine RO.nil (nx ?_)
    refine ex_if_t rfl (rfl) ?_
    refine ex_seq ?_
    refine ex_region ?_
    refine ro_lt (r_as (v := iv 1) rfl) rfl ?_
    refine RO.nil (nx ?_)
    obtain rfl := Option.some.inj h
    refine ex_ret (tq_ret ?_)
    exact ret1 (.inr rfl) rfl rfl (P1.of_flat HS hs rfl)
  refine ro_on (sb (congrArg (!·) (c10))) ?_
  refine ro_lt (r_mv (v := iv j) rfl) rfl ?_
  refine ro_on (sb (congrArg (!·) (c10))) ?_
  refine ro_lt (r_mv (v := iv ((s.1.length : Int))) rfl) rfl ?_
  refine ro_on (sb (congrArg (!·) (c10))) ?_
  refine ro_lt (r_sub rfl rfl (by omega)) rfl ?_
  replace h := bind_some h; obtain ⟨y11, e12, h⟩ := h
  refine ro_on (sb (congrArg (!·) (c10))) ?_
  refine ro_hy (o_cf (vs := [iv j, iv 0, iv ((s.1.length : Int) - 1)]) HS rfl (c_spec_l1In e12) cf64 rfl) rfl ?_
  rintro _ w13 ⟨rfl, hb, HS⟩
  refine ro_on (sb (congrArg (!·) (c10))) ?_
  refine ro_lt (r_not rfl) rfl ?_
  refine ro_lt (r_pickf (v := .bool ((!y11))) (congrArg (!·) (c10)) rfl rfl) rfl ?_
  refine ro_lt (r_mv (v := .bool ((!y11))) rfl) rfl ?_
  replace h := ite_some h; rcases h with ⟨c14, h⟩ | ⟨c14, h⟩
  rotate_left
  · refine ro_off (sb (congrArg (!·) (bf c14))) rfl rfl ?_
    refine ro_off (sb (congrArg (!·) (bf c14))) rfl rfl ?_
    refine ro_off (sb (congrArg (!·) (bf c14))) rfl rfl ?_
    refine ro_off (sb (congrArg (!·) (bf c14))) rfl rfl ?_
    refine ro_off (sb (congrArg (!·) (bf c14))) rfl rfl ?_
    refine ro_off (sb (congrArg (!·) (bf c14))) rfl rfl ?_
    refine ro_off (sb (congrArg (!·) (bf c14))) rfl rfl ?_
    refine ro_lt (r_pickt (v := .bool true) (congrArg (!·) (bf c14)) rfl rfl) rfl ?_
    refine RO.nil (nx ?_)
    refine ex_if_t rfl (rfl) ?_
    refine ex_seq ?_
    refine ex_region ?_
    refine ro_lt (r_as (v := iv 1) rfl) rfl ?_
    refine RO.nil (nx ?_)
    obtain rfl := Option.some.inj h
    refine ex_ret (tq_ret ?_)
    exact ret1 (.inr rfl) rfl rfl (P1.of_flat HS hs rfl)
  refine ro_on (sb (congrArg (!·) (c14))) ?_
  refine ro_lt (r_fa (l4.sub HS.sub) fd27_1 rfl) rfl ?_
  refine ro_on (sb (congrArg (!·) (c14))) ?_
  refine ro_lt (r_ld ((l4.seg 1 1).sub HS.sub) sc25 rfl) rfl ?_
  have b15 := (r_s1.sub HS.sub).big
  refine ro_on (sb (congrArg (!·) (c14))) ?_
  refine ro_lt (r_len (n := 1) (r_s1.sub HS.sub) sl25 rfl) rfl ?_
  refine ro_on (sb (congrArg (!·) (c14))) ?_
  refine ro_lt (r_mv (v := iv ((s.1.length : Int))) rfl) rfl ?_
  refine ro_on (sb (congrArg (!·) (c14))) ?_
  refine ro_lt (r_mv (v := iv ((s.1.length : Int))) rfl) rfl ?_
  refine ro_on (sb (congrArg (!·) (c14))) ?_
  refine ro_lt (r_mulw rfl rfl) rfl ?_
  refine ro_on (sb (congrArg (!·) (c14))) ?_
  refine ro_lt (r_neq rfl rfl) rfl ?_
  refine ro_lt (r_pickf (v := .bool ((!(decide ((s.2.length : Int) = wi ((s.1.length : Int) * (s.1.length : Int))))))) (congrArg (!·) (c14)) rfl rfl) rfl ?_
  refine RO.nil (nx ?_)
  replace h := ite_some h; rcases h with ⟨c16, h⟩ | ⟨c16, h⟩
  rotate_left
  · refine ex_if_t rfl (congrArg (!·) (decide_eq_false c16)) ?_
    refine ex_seq ?_
    refine ex_region ?_
    refine ro_lt (r_as (v := iv 1) rfl) rfl ?_
    refine RO.nil (nx ?_)
    obtain rfl := Option.some.inj h
    refine ex_ret (tq_ret ?_)
    exact ret1 (.inr rfl) rfl rfl (P1.of_flat HS hs rfl)
  refine ex_if_f rfl (congrArg (!·) (decide_eq_true c16)) ?_
  refine ex_skip (nx ?_)
  refine ex_seq ?_
  refine ex_region ?_
  refine ro_lt (r_fa (l4.sub HS.sub) fd27_1 rfl) rfl ?_
  refine ro_lt (r_ld ((l4.seg 1 1).sub HS.sub) sc25 rfl) rfl ?_
  refine ro_lt (r_mv (v := iv i) rfl) rfl ?_
  refine ro_lt (r_mv (v := iv ((s.1.length : Int))) rfl) rfl ?_
  refine ro_lt (r_mulw rfl rfl) rfl ?_
  refine ro_lt (r_mv (v := iv j) rfl) rfl ?_
  refine ro_lt (r_addw rfl rfl) rfl ?_
  replace h := grd_some h; obtain ⟨g17, h⟩ := h
  refine ro_lt (r_ia (r_s1.sub HS.sub) sl25 g17.1 g17.2 rfl rfl) rfl ?_
  refine ro_lt (r_ld ((r_s1.int g17.1 g17.2).sub HS.sub) sc3 rfl) rfl ?_
  refine ro_lt (r_as (v := iv (s.2.getD (wi ((wi (i * (s.1.length : Int))) + j)).toNat 0)) rfl) rfl ?_
  refine RO.nil (nx ?_)
  obtain rfl := Option.some.inj h
  refine ex_ret ?_
  exact ret1 (.inr rfl) rfl rfl (P1.of_flat HS hs rfl)
theorem c_spec_l20Next {w : World} {H : Hp} {FR : List Ob} {g_r : Nat} {r_vars : Int} {v_r_Nodes : Value} {n_r : Nat} {sh_r : Shp} {r_Nodes : List (List Int × List Int × Int × Int)} {v_r_Next : Value} {r_Next : List Int} {r_changed : Bool} {r_bad : Bool} {i : Int} {j : Int} {value : Int} (HS : St w H w (.bx g_r 91 [iv r_vars, v_r_Nodes, v_r_Next, .bool r_changed, .bool r_bad] :: .pr (NS 72 3 n_r v_r_Nodes sh_r r_Nodes) :: .ow (.sl 3 (.int .i64)) r_Next [v_r_Next] :: FR)) {r : List (List Int × List Int × Int × Int) × List Int × Bool × Bool} (h : F_spec_l20Next r_vars n_r r_Nodes r_Next r_changed r_bad i j value = some r) : Calls Try.prog 127 [.pointer (some ⟨g_r, 0, none⟩), iv i, iv j, iv value].toArray w (((fun r => PS (.tuple #[]) fun w' => St w H w' (.bx g_r 91 [iv r_vars, v_r_Nodes, v_r_Next, .bool r.2.2.1, .bool r.2.2.2] :: .pr (NS 72 3 n_r v_r_Nodes sh_r r.1) :: .ow (.sl 3 (.int .i64)) r.2.1 [v_r_Next] :: FR)) : (List (List Int × List Int × Int × Int) × List Int × Bool × Bool) → Ending → World → Prop) r) := by
  unfold F_spec_l20Next at h
  refine calls_ex (n := 37) Try.func127 rfl Try.ntmps127 (Nat.le_of_ble_eq_true rfl) ?_
  refine ex_seq ?_
  refine ex_region ?_
  refine ro_lt (r_mv (v := iv i) rfl) rfl ?_
  refine ro_lt (r_mv (v := .pointer (some ⟨g_r, 0, none⟩)) rfl) rfl ?_
  refine ro_lt (r_nc (HS.boxAt 0 rfl) rfl) rfl ?_
  refine ro_lt (r_fa (HS.boxAt 0 rfl) fd91_1 rfl) rfl ?_
  refine ro_lt (r_fa ((HS.boxAt 0 rfl).seg 1 2) fd27_0 rfl) rfl ?_
  refine ro_lt (r_ld (((HS.boxAt 0 rfl).seg 1 2).seg 0 1) sc24 rfl) rfl ?_
  have b4 := HS.nsBig 1 rfl
  refine ro_lt (r_lenn (m := 4) HS (k := 1) rfl sl24 rfl) rfl ?_
  refine ro_lt (r_mulw rfl rfl) rfl ?_
  refine ro_lt (r_mv (v := iv j) rfl) rfl ?_
  refine ro_lt (r_addw rfl rfl) rfl ?_
  refine ro_lt (r_as (v := iv (wi ((wi (i * (n_r : Int))) + j))) rfl) rfl ?_
  refine RO.nil (nx ?_)
  refine ex_dr (Mm H [14]) (Phi g_r (fun (a : Bool × Bool) => [iv r_vars, v_r_Nodes, v_r_Next, .bool a.1, .bool a.2]) v_r_Nodes n_r sh_r) [0, 1, 3, 7, 15, 0, 0, 0, 128, 384, 896, 1920, 0, 8064, 16256, 0, 65472, 131071, 262143] [16, 18] (.op 0 (.op 1 (.op 2 (.op 3 (.op 4 (.op 5 (.op 6 (.op 7 (.op 8 (.op 9 (.op 10 (.op 11 (.op 12 (.op 13 (.op 14 (.op 15 (.op 16 (.op 17 (.op 18 .nil))))))))))))))))))) mix (by kernel_rfl) (by kernel_rfl) ?_
  intro w5 hw hb; have HS := HS.ext hb; clear hw hb
  refine RT.lt rfl rfl rfl rfl (fun w' k => r_mv (v := .pointer (some ⟨g_r, 0, none⟩)) rfl) ?_
  refine RT.lt rfl rfl rfl rfl (fun w' k => r_nc (HS.boxAt 0 rfl) rfl) ?_
  refine RT.lt rfl rfl rfl rfl (fun w' k => r_fa (HS.boxAt 0 rfl) fd91_1 rfl) ?_
  refine RT.lt rfl rfl rfl rfl (fun w' k => r_fa ((HS.boxAt 0 rfl).seg 1 2) fd27_1 rfl) ?_
  refine RT.lt rfl rfl rfl rfl (fun w' k => r_ld (exGet (exSeg (exSeg (k.phi (Phi.of (f := (fun (a : Bool × Bool) => [iv r_vars, v_r_Nodes, v_r_Next, .bool a.1, .bool a.2])) (r_changed, r_bad) HS 0 1 rfl rfl)).1 1 2) 1 1) fun _ => rfl) sc25 rfl) ?_
  refine RT.lt rfl rfl rfl rfl (fun w' k => r_mv (v := iv (wi ((wi (i * (n_r : Int))) + j))) rfl) ?_
  refine RT.lt rfl rfl rfl rfl (fun w' k => r_mv (v := .pointer (some ⟨g_r, 0, none⟩)) rfl) ?_
  refine RT.lt rfl rfl rfl rfl (fun w' k => r_mv (v := .pointer (some ⟨g_r, 0, none⟩)) rfl) ?_
  refine RT.lt rfl rfl rfl rfl (fun w' k => r_nc (HS.boxAt 0 rfl) rfl) ?_
  refine RT.lt rfl rfl rfl rfl (fun w' k => r_fa (HS.boxAt 0 rfl) fd91_1 rfl) ?_
  refine RT.lt rfl rfl rfl rfl (fun w' k => r_fa ((HS.boxAt 0 rfl).seg 1 2) fd27_1 rfl) ?_
  refine RT.lt rfl rfl rfl rfl (fun w' k => r_ld (exGet (exSeg (exSeg (k.phi (Phi.of (f := (fun (a : Bool × Bool) => [iv r_vars, v_r_Nodes, v_r_Next, .bool a.1, .bool a.2])) (r_changed, r_bad) HS 0 1 rfl rfl)).1 1 2) 1 1) fun _ => rfl) sc25 rfl) ?_
  refine RT.lt rfl rfl rfl rfl (fun w' k => r_mv (v := iv (wi ((wi (i * (n_r : Int))) + j))) rfl) ?_
  replace h := grd_some h; obtain ⟨g6, h⟩ := h
  refine RT.lt rfl rfl rfl rfl (fun w' k => r_ia (HS.rd 2 rfl) sl25 g6.1 g6.2 rfl rfl) ?_
  refine RT.lt rfl rfl rfl rfl (fun w' k => r_ld (((HS.rd 2 rfl).int g6.1 g6.2).k0 (Sub.refl _) (k.kp.none rfl)) sc3 rfl) ?_
  refine RT.lt rfl rfl rfl rfl (fun w' k => r_mv (v := iv value) rfl) ?_
  replace h := bind_some h; obtain ⟨y7, e8, h⟩ := h
  refine RT.hy rfl rfl rfl rfl rfl (o_cs (vs := [.pointer (some ⟨g_r, 0, none⟩), iv (r_Next.getD (wi ((wi (i * (n_r : Int))) + j)).toNat 0), iv value]) (c_spec_l20Value HS.self e8) cf125 rfl) (fun _ _ ⟨_, HS2⟩ => km_st HS (Sub.refl _) (HS.kpH HS2) (fun _ h => h) (by kernel_rfl) (fun _ => (Phi.of (f := (fun (a : Bool × Bool) => [iv r_vars, v_r_Nodes, v_r_Next, .bool a.1, .bool a.2])) (y7.2.2.2.1, y7.2.2.2.2) HS2 0 1 rfl rfl))) ?_
  rintro _ w9 ⟨rfl, HS2⟩
  replace HS := HS.from HS2
  replace h := grd_some h; obtain ⟨g11, h⟩ := h
  refine RT.lt rfl rfl rfl rfl (fun w' k => r_ia (HS.rd 2 rfl) sl25 g11.1 g11.2 rfl rfl) ?_
  refine RT.hy rfl rfl rfl rfl rfl (o_set (x' := y7.1) (HS.sel (G := _ :: _ :: _ :: FR) [2] 0 rfl) rfl g11.1 g11.2 st3 rfl rfl) (fun _ _ ⟨_, hk, HS2⟩ => km_st HS (Sub.refl _) (hk _ fun _ h => h) (own_none (HS.sel (G := _ :: _ :: _ :: FR) [2] 0 rfl)) (by kernel_rfl) (fun _ => (Phi.of (f := (fun (a : Bool × Bool) => [iv r_vars, v_r_Nodes, v_r_Next, .bool a.1, .bool a.2])) (y7.2.2.2.1, y7.2.2.2.2) HS2 1 2 rfl rfl))) ?_
  rintro _ w12 ⟨rfl, hk, HS⟩
  refine RT.nil ?_
  obtain rfl := Option.some.inj h
  exact ret0 (.inl rfl) rfl ⟨rfl, (HS.sel (G := _ :: _ :: _ :: FR) [1, 1, 0] 0 rfl)⟩
theorem c_spec_l20Single {w : World} {H : Hp} {FR : List Ob} {g_r : Nat} {r_vars : Int} {v_r_Nodes : Value} {n_r : Nat} {sh_r : Shp} {r_Nodes : List (List Int × List Int × Int × Int)} {v_r_Next : Value} {r_Next : List Int} {r_changed : Bool} {r_bad : Bool} (HS : St w H w (.bx g_r 91 [iv r_vars, v_r_Nodes, v_r_Next, .bool r_changed, .bool r_bad] :: .pr (NS 72 3 n_r v_r_Nodes sh_r r_Nodes) :: .ow (.sl 3 (.int .i64)) r_Next [v_r_Next] :: FR)) {r : List (List Int × List Int × Int × Int) × List Int × Bool × Bool} (h : F_spec_l20Single r_vars n_r r_Nodes r_Next r_changed r_bad = some r) : Calls Try.prog 76 [.pointer (some ⟨g_r, 0, none⟩)].toArray w (((fun r => PS (.tuple #[]) fun w' => St w H w' (.bx g_r 91 [iv r_vars, v_r_Nodes, v_r_Next, .bool r.2.2.1, .bool r.2.2.2] :: .pr (NS 72 3 n_r v_r_Nodes sh_r r.1) :: .ow (.sl 3 (.int .i64)) r.2.1 [v_r_Next] :: FR)) : (List (List Int × List Int × Int × Int) × List Int × Bool × Bool) → Ending → World → Prop) r) := by
  unfold F_spec_l20Single at h
  refine calls_ex (n := 78) Try.func76 rfl Try.ntmps76 (Nat.le_of_ble_eq_true rfl) ?_
  refine ex_seq ?_
  refine ex_region ?_
  refine ro_lt (r_mv (v := .pointer (some ⟨g_r, 0, none⟩)) rfl) rfl ?_
  refine ro_lt (r_nc (HS.boxAt 0 rfl) rfl) rfl ?_
  refine ro_lt (r_fa (HS.boxAt 0 rfl) fd91_1 rfl) rfl ?_
  refine ro_lt (r_fa ((HS.boxAt 0 rfl).seg 1 2) fd27_0 rfl) rfl ?_
  refine ro_lt (r_ld (((HS.boxAt 0 rfl).seg 1 2).seg 0 1) sc24 rfl) rfl ?_
  have b4 := HS.nsBig 1 rfl
  refine ro_lt (r_lenn (m := 4) HS (k := 1) rfl sl24 rfl) rfl ?_
  refine ro_lt (r_as (v := iv ((n_r : Int))) rfl) rfl ?_
  refine RO.nil (nx ?_)
  refine ex_seq ?_
  refine ex_region ?_
  refine ro_lt (r_as (v := iv 0) rfl) rfl ?_
  refine RO.nil (nx ?_)
  replace h := bind_some h; obtain ⟨y85, e86, h⟩ := h
  refine ex_lbo (fun (st : Bool × Bool × (List (List Int × List Int × Int × Int)) × (List Int) × Int) s' w' => Has s' [(0, .pointer (some ⟨g_r, 0, none⟩)), (2, iv ((n_r : Int))), (3, iv st.2.2.2.2)] ∧ St w H w' (.bx g_r 91 [iv r_vars, v_r_Nodes, v_r_Next, .bool st.1, .bool st.2.1] :: .pr (NS 72 3 n_r v_r_Nodes sh_r st.2.2.1) :: .ow (.sl 3 (.int .i64)) st.2.2.2.1 [v_r_Next] :: FR)) e86 ⟨⟨rfl, rfl, rfl, trivial⟩, HS⟩ ?_ ?_
  · rintro ⟨changed_14, bad_15, Nodes_16, Next_17, u_18⟩ c' s' w19 ⟨hs_, HS⟩ h
    rw [has_put hs_]; clear hs_
    try dsimp only at HS
    replace h : F_spec_l20Single_b4 n_r r_vars changed_14 bad_15 Nodes_16 Next_17 u_18 = some c' := h
    unfold F_spec_l20Single_b4 at h
    refine ex_seq ?_
    refine ex_seq ?_
    refine ex_region ?_
    refine ro_lt (r_mv (v := iv u_18) rfl) rfl ?_
    refine ro_lt (r_mv (v := iv ((n_r : Int))) rfl) rfl ?_
    refine ro_lt (r_lss rfl rfl) rfl ?_
    refine RO.nil (nx ?_)
    replace h := ite_some h; rcases h with ⟨c20, h⟩ | ⟨c20, h⟩
    rotate_left
    · refine ex_if_f rfl (decide_eq_false c20) ?_
      refine ex_exit (tq_exit ?_)
      obtain rfl := Option.some.inj h
      exact lq_out ⟨⟨rfl, rfl, rfl, trivial⟩, HS⟩
    refine ex_if_t rfl (decide_eq_true c20) ?_
    refine ex_skip (nx ?_)
    refine ex_seq ?_
    refine ex_block ?_
    refine ex_seq ?_
    refine ex_region ?_
    refine ro_lt (r_as (v := iv 0) rfl) rfl ?_
    refine RO.nil (nx ?_)
    replace h := bind_some h; obtain ⟨y81, e82, h⟩ := h
    refine ex_lbo (fun (st : Bool × Bool × (List (List Int × List Int × Int × Int)) × (List Int) × Int) s' w' => Has s' [(0, .pointer (some ⟨g_r, 0, none⟩)), (2, iv ((n_r : Int))), (3, iv u_18), (4, iv st.2.2.2.2)] ∧ St w H w' (.bx g_r 91 [iv r_vars, v_r_Nodes, v_r_Next, .bool st.1, .bool st.2.1] :: .pr (NS 72 3 n_r v_r_Nodes sh_r st.2.2.1) :: .ow (.sl 3 (.int .i64)) st.2.2.2.1 [v_r_Next] :: FR)) e82 ⟨⟨rfl, rfl, rfl, rfl, trivial⟩, HS⟩ ?_ ?_
    · rintro ⟨changed_23, bad_24, Nodes_25, Next_26, v_27⟩ c' s' w28 ⟨hs_, HS⟩ h
      rw [has_put hs_]; clear hs_
      try dsimp only at HS
      replace h : F_spec_l20Single_b3 n_r u_18 r_vars changed_23 bad_24 Nodes_25 Next_26 v_27 = some c' := h
      unfold F_spec_l20Single_b3 at h
      refine ex_seq ?_
      refine ex_seq ?_
      refine ex_region ?_
      refine ro_lt (r_mv (v := iv v_27) rfl) rfl ?_
      refine ro_lt (r_mv (v := iv ((n_r : Int))) rfl) rfl ?_
      refine ro_lt (r_lss rfl rfl) rfl ?_
      refine ro_lt (r_mv (v := .bool ((decide (v_27 < (n_r : Int))))) rfl) rfl ?_
      replace h := ite_some h; rcases h with ⟨c29, h⟩ | ⟨c29, h⟩
      rotate_left
      · refine ro_off (sb (decide_eq_false c29)) rfl rfl ?_
        refine ro_off (sb (decide_eq_false c29)) rfl rfl ?_
        refine ro_off (sb (decide_eq_false c29)) rfl rfl ?_
        refine ro_off (sb (decide_eq_false c29)) rfl rfl ?_
        refine ro_off (sb (decide_eq_false c29)) rfl rfl ?_
        refine ro_lt (r_pickf (v := .bool false) (decide_eq_false c29) rfl rfl) rfl ?_
        refine RO.nil (nx ?_)
        refine ex_if_f rfl (rfl) ?_
        refine ex_exit (tq_exit ?_)
        obtain rfl := Option.some.inj h
        exact lq_out ⟨⟨rfl, rfl, rfl, rfl, trivial⟩, HS⟩
      refine ro_on (sb (decide_eq_true c29)) ?_
      refine ro_lt (r_mv (v := .pointer (some ⟨g_r, 0, none⟩)) rfl) rfl ?_
      refine ro_on (sb (decide_eq_true c29)) ?_
      refine ro_lt (r_nc (HS.boxAt 0 rfl) rfl) rfl ?_
      refine ro_on (sb (decide_eq_true c29)) ?_
      refine ro_lt (r_fa (HS.boxAt 0 rfl) fd91_3 rfl) rfl ?_
      refine ro_on (sb (decide_eq_true c29)) ?_
      refine ro_lt (r_ld ((HS.boxAt 0 rfl).seg 4 1) sc4 rfl) rfl ?_
      refine ro_on (sb (decide_eq_true c29)) ?_
      refine ro_lt (r_not rfl) rfl ?_
      refine ro_lt (r_pickt (v := .bool ((!bad_24))) (decide_eq_true c29) rfl rfl) rfl ?_
      refine RO.nil (nx ?_)
      replace h := ite_some h; rcases h with ⟨c30, h⟩ | ⟨c30, h⟩
      · refine ex_if_f rfl (congrArg (!·) (c30)) ?_
        refine ex_exit (tq_exit ?_)
        obtain rfl := Option.some.inj h
        exact lq_out ⟨⟨rfl, rfl, rfl, rfl, trivial⟩, HS⟩
      refine ex_if_t rfl (congrArg (!·) (bf c30)) ?_
      refine ex_skip (nx ?_)
      refine ex_seq ?_
      refine ex_block ?_
      refine ex_seq ?_
      refine ex_seq ?_
      refine ex_region ?_
      refine ro_lt (r_mv (v := .pointer (some ⟨g_r, 0, none⟩)) rfl) rfl ?_
      refine ro_lt (r_nc (HS.boxAt 0 rfl) rfl) rfl ?_
      refine ro_lt (r_fa (HS.boxAt 0 rfl) fd91_1 rfl) rfl ?_
      refine ro_lt (r_lda ((HS.boxAt 0 rfl).seg 1 2) ag27 rfl rfl) rfl ?_
      refine ro_lt (r_mv (v := iv u_18) rfl) rfl ?_
      refine ro_lt (r_mv (v := iv v_27) rfl) rfl ?_
      replace h := bind_some h; obtain ⟨y31, e32, h⟩ := h
      refine ro_hy (o_cf (vs := [.agg #[v_r_Nodes, v_r_Next], iv u_18, iv v_27]) HS rfl (c_spec_NextOf (HS.nsRd 1 rfl) (HS.rd 2 rfl) e32) cf57 rfl) rfl ?_
      rintro _ w33 ⟨rfl, hb, HS⟩
      refine ro_lt (r_neq rfl rfl) rfl ?_
      refine RO.nil (nx ?_)
      replace h := ite_some h; rcases h with ⟨c34, h⟩ | ⟨c34, h⟩
      rotate_left
      · refine ex_if_t rfl (congrArg (!·) (decide_eq_false c34)) ?_
        refine ex_exit (tq_exit (blk_exit (nx ?_)))
        refine ex_region ?_
        refine ro_lt (r_mv (v := iv v_27) rfl) rfl ?_
        refine ro_lt (r_addw rfl rfl) rfl ?_
        refine ro_lt (r_as (v := iv (wi (v_27 + 1))) rfl) rfl ?_
        refine RO.nil ?_
        obtain rfl := Option.some.inj h
        exact lq_go ⟨⟨rfl, rfl, rfl, rfl, trivial⟩, HS⟩
      refine ex_if_f rfl (congrArg (!·) (decide_eq_true c34)) ?_
      refine ex_skip (nx ?_)
      refine ex_seq ?_
      refine ex_region ?_
      refine ro_lt (r_mv (v := .pointer (some ⟨g_r, 0, none⟩)) rfl) rfl ?_
      refine ro_lt (r_mv (v := iv v_27) rfl) rfl ?_
      replace h := bind_some h; obtain ⟨y35, e36, h⟩ := h
      refine ro_hy (o_cs (vs := [.pointer (some ⟨g_r, 0, none⟩), iv v_27]) (c_spec_l20One HS.self e36) cf124 rfl) rfl ?_
      rintro _ w37 ⟨rfl, HS2⟩
      replace HS := HS.from HS2
      refine RO.nil (nx ?_)
      refine ex_seq ?_
      refine ex_seq ?_
      refine ex_region ?_
      refine ro_lt (r_as (v := iv 0) rfl) rfl ?_
      refine RO.nil (nx ?_)
      replace h := bind_some h; obtain ⟨y53, e54, h⟩ := h
      refine ex_lbo (fun (st : Bool × Bool × (List (List Int × List Int × Int × Int)) × (List Int) × Int) s' w' => Has s' [(0, .pointer (some ⟨g_r, 0, none⟩)), (2, iv ((n_r : Int))), (3, iv u_18), (4, iv v_27), (5, iv st.2.2.2.2)] ∧ St w H w' (.bx g_r 91 [iv r_vars, v_r_Nodes, v_r_Next, .bool st.1, .bool st.2.1] :: .pr (NS 72 3 n_r v_r_Nodes sh_r st.2.2.1) :: .ow (.sl 3 (.int .i64)) st.2.2.2.1 [v_r_Next] :: FR)) e54 ⟨⟨rfl, rfl, rfl, rfl, rfl, trivial⟩, HS⟩ ?_ ?_
      · rintro ⟨changed_41, bad_42, Nodes_43, Next_44, w_45⟩ c' s' w46 ⟨hs_, HS⟩ h
        rw [has_put hs_]; clear hs_
        try dsimp only at HS
        replace h : F_spec_l20Single_b1 n_r v_27 r_vars u_18 changed_41 bad_42 Nodes_43 Next_44 w_45 = some c' := h
        unfold F_spec_l20Single_b1 at h
        refine ex_seq ?_
        refine ex_seq ?_
        refine ex_region ?_
        refine ro_lt (r_mv (v := iv w_45) rfl) rfl ?_
        refine ro_lt (r_mv (v := iv ((n_r : Int))) rfl) rfl ?_
        refine ro_lt (r_lss rfl rfl) rfl ?_
        refine RO.nil (nx ?_)
        replace h := ite_some h; rcases h with ⟨c47, h⟩ | ⟨c47, h⟩
        rotate_left
        · refine ex_if_f rfl (decide_eq_false c47) ?_
          refine ex_exit (tq_exit ?_)
          obtain rfl := Option.some.inj h
          exact lq_out ⟨⟨rfl, rfl, rfl, rfl, rfl, trivial⟩, HS⟩
        refine ex_if_t rfl (decide_eq_true c47) ?_
        refine ex_skip (nx ?_)
        refine ex_seq ?_
        refine ex_block ?_
        refine ex_seq ?_
        refine ex_region ?_
        refine ro_lt (r_mv (v := iv w_45) rfl) rfl ?_
        refine ro_lt (r_mv (v := iv v_27) rfl) rfl ?_
        refine ro_lt (r_neq rfl rfl) rfl ?_
        refine RO.nil (nx ?_)
        replace h := ite_some h; rcases h with ⟨c48, h⟩ | ⟨c48, h⟩
        · refine ex_if_f rfl (congrArg (!·) (decide_eq_true c48)) ?_
          refine ex_skip (blk_nx (nx ?_))
          refine ex_region ?_
          refine ro_lt (r_mv (v := iv w_45) rfl) rfl ?_
          refine ro_lt (r_addw rfl rfl) rfl ?_
          refine ro_lt (r_as (v := iv (wi (w_45 + 1))) rfl) rfl ?_
          refine RO.nil ?_
          obtain rfl := Option.some.inj h
          exact lq_go ⟨⟨rfl, rfl, rfl, rfl, rfl, trivial⟩, HS⟩
        refine ex_if_t rfl (congrArg (!·) (decide_eq_false c48)) ?_
        refine ex_region ?_
        refine ro_lt (r_mv (v := .pointer (some ⟨g_r, 0, none⟩)) rfl) rfl ?_
        refine ro_lt (r_mv (v := iv u_18) rfl) rfl ?_
        refine ro_lt (r_mv (v := iv w_45) rfl) rfl ?_
        replace h := bind_some h; obtain ⟨y49, e50, h⟩ := h
        refine ro_hy (o_cs (vs := [.pointer (some ⟨g_r, 0, none⟩), iv u_18, iv w_45, iv 0]) (c_spec_l20Next HS.self e50) cf127 rfl) rfl ?_
        rintro _ w51 ⟨rfl, HS2⟩
        replace HS := HS.from HS2
        refine RO.nil (blk_nx (nx ?_))
        refine ex_region ?_
        refine ro_lt (r_mv (v := iv w_45) rfl) rfl ?_
        refine ro_lt (r_addw rfl rfl) rfl ?_
        refine ro_lt (r_as (v := iv (wi (w_45 + 1))) rfl) rfl ?_
        refine RO.nil ?_
        obtain rfl := Option.some.inj h
        exact lq_go ⟨⟨rfl, rfl, rfl, rfl, rfl, trivial⟩, HS⟩
      rintro s' w55 ⟨hs_, HS⟩
      rw [has_put hs_]; clear hs_
      refine (nx ?_)
      refine ex_seq ?_
      refine ex_seq ?_
      refine ex_region ?_
      refine ro_lt (r_mv (v := .pointer (some ⟨g_r, 0, none⟩)) rfl) rfl ?_
      refine ro_lt (r_nc (HS.boxAt 0 rfl) rfl) rfl ?_
      refine ro_lt (r_fa (HS.boxAt 0 rfl) fd91_1 rfl) rfl ?_
      refine ro_lt (r_fa ((HS.boxAt 0 rfl).seg 1 2) fd27_0 rfl) rfl ?_
      refine ro_lt (r_ld (((HS.boxAt 0 rfl).seg 1 2).seg 0 1) sc24 rfl) rfl ?_
      refine ro_lt (r_mv (v := iv v_27) rfl) rfl ?_
      replace h := grd_some h; obtain ⟨g57, h⟩ := h
      refine ro_lt (r_ian HS (k := 1) rfl sl24 g57.1 g57.2 rfl rfl) rfl ?_
      refine ro_lt (r_fa (HS.nsAt 1 rfl (i := v_27.toNat) (by omega)) fd72_2 rfl) rfl ?_
      refine ro_lt (r_ld (v := iv ((y53.2.2.1.getD v_27.toNat dN).2.2.1)) ((HS.nsAt 1 rfl (i := v_27.toNat) (by omega)).seg 2 1) sc3 rfl) rfl ?_
      refine ro_lt (r_neq rfl rfl) rfl ?_
      refine RO.nil (nx ?_)
      replace h := ite_some h; rcases h with ⟨c58, h⟩ | ⟨c58, h⟩
      rotate_left
      · refine ex_if_t rfl (congrArg (!·) (decide_eq_false c58)) ?_
        refine ex_exit (tq_exit (blk_exit (nx ?_)))
        refine ex_region ?_
        refine ro_lt (r_mv (v := iv v_27) rfl) rfl ?_
        refine ro_lt (r_addw rfl rfl) rfl ?_
        refine ro_lt (r_as (v := iv (wi (v_27 + 1))) rfl) rfl ?_
        refine RO.nil ?_
        obtain rfl := Option.some.inj h
        exact lq_go ⟨⟨rfl, rfl, rfl, rfl, trivial⟩, HS⟩
      refine ex_if_f rfl (congrArg (!·) (decide_eq_true c58)) ?_
      refine ex_skip (nx ?_)
      refine ex_seq ?_
      refine ex_region ?_
      refine ro_lt (r_mv (v := .pointer (some ⟨g_r, 0, none⟩)) rfl) rfl ?_
      refine ro_lt (r_mv (v := iv u_18) rfl) rfl ?_
      replace h := bind_some h; obtain ⟨y59, e60, h⟩ := h
      refine ro_hy (o_cs (vs := [.pointer (some ⟨g_r, 0, none⟩), iv u_18]) (c_spec_l20One HS.self e60) cf124 rfl) rfl ?_
      rintro _ w61 ⟨rfl, HS2⟩
      replace HS := HS.from HS2
      refine RO.nil (nx ?_)
      refine ex_seq ?_
      refine ex_region ?_
      refine ro_lt (r_as (v := iv 0) rfl) rfl ?_
      refine RO.nil (nx ?_)
      replace h := bind_some h; obtain ⟨y77, e78, h⟩ := h
      refine ex_lbo (fun (st : Bool × Bool × (List (List Int × List Int × Int × Int)) × (List Int) × Int) s' w' => Has s' [(0, .pointer (some ⟨g_r, 0, none⟩)), (2, iv ((n_r : Int))), (3, iv u_18), (4, iv v_27), (6, iv st.2.2.2.2)] ∧ St w H w' (.bx g_r 91 [iv r_vars, v_r_Nodes, v_r_Next, .bool st.1, .bool st.2.1] :: .pr (NS 72 3 n_r v_r_Nodes sh_r st.2.2.1) :: .ow (.sl 3 (.int .i64)) st.2.2.2.1 [v_r_Next] :: FR)) e78 ⟨⟨rfl, rfl, rfl, rfl, rfl, trivial⟩, HS⟩ ?_ ?_
      · rintro ⟨changed_65, bad_66, Nodes_67, Next_68, w_69⟩ c' s' w70 ⟨hs_, HS⟩ h
        rw [has_put hs_]; clear hs_
        try dsimp only at HS
        replace h : F_spec_l20Single_b2 n_r u_18 r_vars v_27 changed_65 bad_66 Nodes_67 Next_68 w_69 = some c' := h
        unfold F_spec_l20Single_b2 at h
        refine ex_seq ?_
        refine ex_seq ?_
        refine ex_region ?_
        refine ro_lt (r_mv (v := iv w_69) rfl) rfl ?_
        refine ro_lt (r_mv (v := iv ((n_r : Int))) rfl) rfl ?_
        refine ro_lt (r_lss rfl rfl) rfl ?_
        refine RO.nil (nx ?_)
        replace h := ite_some h; rcases h with ⟨c71, h⟩ | ⟨c71, h⟩
        rotate_left
        · refine ex_if_f rfl (decide_eq_false c71) ?_
          refine ex_exit (tq_exit ?_)
          obtain rfl := Option.some.inj h
          exact lq_out ⟨⟨rfl, rfl, rfl, rfl, rfl, trivial⟩, HS⟩
        refine ex_if_t rfl (decide_eq_true c71) ?_
        refine ex_skip (nx ?_)
        refine ex_seq ?_
        refine ex_block ?_
        refine ex_seq ?_
        refine ex_region ?_
        refine ro_lt (r_mv (v := iv w_69) rfl) rfl ?_
        refine ro_lt (r_mv (v := iv u_18) rfl) rfl ?_
        refine ro_lt (r_neq rfl rfl) rfl ?_
        refine RO.nil (nx ?_)
        replace h := ite_some h; rcases h with ⟨c72, h⟩ | ⟨c72, h⟩
        · refine ex_if_f rfl (congrArg (!·) (decide_eq_true c72)) ?_
          refine ex_skip (blk_nx (nx ?_))
          refine ex_region ?_
          refine ro_lt (r_mv (v := iv w_69) rfl) rfl ?_
          refine ro_lt (r_addw rfl rfl) rfl ?_
          refine ro_lt (r_as (v := iv (wi (w_69 + 1))) rfl) rfl ?_
          refine RO.nil ?_
          obtain rfl := Option.some.inj h
          exact lq_go ⟨⟨rfl, rfl, rfl, rfl, rfl, trivial⟩, HS⟩
        refine ex_if_t rfl (congrArg (!·) (decide_eq_false c72)) ?_
        refine ex_region ?_
        refine ro_lt (r_mv (v := .pointer (some ⟨g_r, 0, none⟩)) rfl) rfl ?_
        refine ro_lt (r_mv (v := iv w_69) rfl) rfl ?_
        refine ro_lt (r_mv (v := iv v_27) rfl) rfl ?_
        replace h := bind_some h; obtain ⟨y73, e74, h⟩ := h
        refine ro_hy (o_cs (vs := [.pointer (some ⟨g_r, 0, none⟩), iv w_69, iv v_27, iv 0]) (c_spec_l20Next HS.self e74) cf127 rfl) rfl ?_
        rintro _ w75 ⟨rfl, HS2⟩
        replace HS := HS.from HS2
        refine RO.nil (blk_nx (nx ?_))
        refine ex_region ?_
        refine ro_lt (r_mv (v := iv w_69) rfl) rfl ?_
        refine ro_lt (r_addw rfl rfl) rfl ?_
        refine ro_lt (r_as (v := iv (wi (w_69 + 1))) rfl) rfl ?_
        refine RO.nil ?_
        obtain rfl := Option.some.inj h
        exact lq_go ⟨⟨rfl, rfl, rfl, rfl, rfl, trivial⟩, HS⟩
      rintro s' w79 ⟨hs_, HS⟩
      rw [has_put hs_]; clear hs_
      refine (blk_nx (nx ?_))
      refine ex_region ?_
      refine ro_lt (r_mv (v := iv v_27) rfl) rfl ?_
      refine ro_lt (r_addw rfl rfl) rfl ?_
      refine ro_lt (r_as (v := iv (wi (v_27 + 1))) rfl) rfl ?_
      refine RO.nil ?_
      obtain rfl := Option.some.inj h
      exact lq_go ⟨⟨rfl, rfl, rfl, rfl, trivial⟩, HS⟩
    rintro s' w83 ⟨hs_, HS⟩
    rw [has_put hs_]; clear hs_
    refine (blk_nx (nx ?_))
    refine ex_region ?_
    refine ro_lt (r_mv (v := iv u_18) rfl) rfl ?_
    refine ro_lt (r_addw rfl rfl) rfl ?_
    refine ro_lt (r_as (v := iv (wi (u_18 + 1))) rfl) rfl ?_
    refine RO.nil ?_
    obtain rfl := Option.some.inj h
    exact lq_go ⟨⟨rfl, rfl, rfl, trivial⟩, HS⟩
  rintro s' w87 ⟨hs_, HS⟩
  rw [has_put hs_]; clear hs_
  obtain rfl := Option.some.inj h
  exact ret0 (.inl rfl) rfl ⟨rfl, HS⟩
theorem c_spec_l20Along {w : World} {H : Hp} {FR : List Ob} {g_r : Nat} {r_vars : Int} {v_r_Nodes : Value} {n_r : Nat} {sh_r : Shp} {r_Nodes : List (List Int × List Int × Int × Int)} {v_r_Next : Value} {r_Next : List Int} {r_changed : Bool} {r_bad : Bool} (HS : St w H w (.bx g_r 91 [iv r_vars, v_r_Nodes, v_r_Next, .bool r_changed, .bool r_bad] :: .pr (NS 72 3 n_r v_r_Nodes sh_r r_Nodes) :: .ow (.sl 3 (.int .i64)) r_Next [v_r_Next] :: FR)) {r : List (List Int × List Int × Int × Int) × List Int × Bool × Bool} (h : F_spec_l20Along r_vars n_r r_Nodes r_Next r_changed r_bad = some r) : Calls Try.prog 77 [.pointer (some ⟨g_r, 0, none⟩)].toArray w (((fun r => PS (.tuple #[]) fun w' => St w H w' (.bx g_r 91 [iv r_vars, v_r_Nodes, v_r_Next, .bool r.2.2.1, .bool r.2.2.2] :: .pr (NS 72 3 n_r v_r_Nodes sh_r r.1) :: .ow (.sl 3 (.int .i64)) r.2.1 [v_r_Next] :: FR)) : (List (List Int × List Int × Int × Int) × List Int × Bool × Bool) → Ending → World → Prop) r) := by
  unfold F_spec_l20Along at h
  refine calls_ex (n := 85) Try.func77 rfl Try.ntmps77 (Nat.le_of_ble_eq_true rfl) ?_
  refine ex_seq ?_
  refine ex_region ?_
  refine ro_lt (r_mv (v := .pointer (some ⟨g_r, 0, none⟩)) rfl) rfl ?_
  refine ro_lt (r_nc (HS.boxAt 0 rfl) rfl) rfl ?_
  refine ro_lt (r_fa (HS.boxAt 0 rfl) fd91_1 rfl) rfl ?_
  refine ro_lt (r_fa ((HS.boxAt 0 rfl).seg 1 2) fd27_0 rfl) rfl ?_
  refine ro_lt (r_ld (((HS.boxAt 0 rfl).seg 1 2).seg 0 1) sc24 rfl) rfl ?_
  have b4 := HS.nsBig 1 rfl
  refine ro_lt (r_lenn (m := 4) HS (k := 1) rfl sl24 rfl) rfl ?_
  refine ro_lt (r_as (v := iv ((n_r : Int))) rfl) rfl ?_
  refine RO.nil (nx ?_)
  refine ex_seq ?_
  refine ex_region ?_
  refine ro_lt (r_as (v := iv 0) rfl) rfl ?_
  refine RO.nil (nx ?_)
  replace h := bind_some h; obtain ⟨y67, e68, h⟩ := h
  refine ex_lbo (fun (st : Bool × Bool × (List (List Int × List Int × Int × Int)) × (List Int) × Int) s' w' => Has s' [(0, .pointer (some ⟨g_r, 0, none⟩)), (2, iv ((n_r : Int))), (3, iv st.2.2.2.2)] ∧ St w H w' (.bx g_r 91 [iv r_vars, v_r_Nodes, v_r_Next, .bool st.1, .bool st.2.1] :: .pr (NS 72 3 n_r v_r_Nodes sh_r st.2.2.1) :: .ow (.sl 3 (.int .i64)) st.2.2.2.1 [v_r_Next] :: FR)) e68 ⟨⟨rfl, rfl, rfl, trivial⟩, HS⟩ ?_ ?_
  · rintro ⟨changed_14, bad_15, Nodes_16, Next_17, u_18⟩ c' s' w19 ⟨hs_, HS⟩ h
    rw [has_put hs_]; clear hs_
    try dsimp only at HS
    replace h : F_spec_l20Along_b3 n_r r_vars changed_14 bad_15 Nodes_16 Next_17 u_18 = some c' := h
    unfold F_spec_l20Along_b3 at h
    refine ex_seq ?_
    refine ex_seq ?_
    refine ex_region ?_
    refine ro_lt (r_mv (v := iv u_18) rfl) rfl ?_
    refine ro_lt (r_mv (v := iv ((n_r : Int))) rfl) rfl ?_
    refine ro_lt (r_lss rfl rfl) rfl ?_
    refine RO.nil (nx ?_)
    replace h := ite_some h; rcases h with ⟨c20, h⟩ | ⟨c20, h⟩
    rotate_left
    · refine ex_if_f rfl (decide_eq_false c20) ?_
      refine ex_exit (tq_exit ?_)
      obtain rfl := Option.some.inj h
      exact lq_out ⟨⟨rfl, rfl, rfl, trivial⟩, HS⟩
    refine ex_if_t rfl (decide_eq_true c20) ?_
    refine ex_skip (nx ?_)
    refine ex_seq ?_
    refine ex_block ?_
    refine ex_seq ?_
    refine ex_region ?_
    refine ro_lt (r_as (v := iv 0) rfl) rfl ?_
    refine RO.nil (nx ?_)
    replace h := bind_some h; obtain ⟨y63, e64, h⟩ := h
    refine ex_lbo (fun (st : Bool × Bool × (List (List Int × List Int × Int × Int)) × (List Int) × Int) s' w' => Has s' [(0, .pointer (some ⟨g_r, 0, none⟩)), (2, iv ((n_r : Int))), (3, iv u_18), (4, iv st.2.2.2.2)] ∧ St w H w' (.bx g_r 91 [iv r_vars, v_r_Nodes, v_r_Next, .bool st.1, .bool st.2.1] :: .pr (NS 72 3 n_r v_r_Nodes sh_r st.2.2.1) :: .ow (.sl 3 (.int .i64)) st.2.2.2.1 [v_r_Next] :: FR)) e64 ⟨⟨rfl, rfl, rfl, rfl, trivial⟩, HS⟩ ?_ ?_
    · rintro ⟨changed_23, bad_24, Nodes_25, Next_26, v_27⟩ c' s' w28 ⟨hs_, HS⟩ h
      rw [has_put hs_]; clear hs_
      try dsimp only at HS
      replace h : F_spec_l20Along_b2 n_r r_vars u_18 changed_23 bad_24 Nodes_25 Next_26 v_27 = some c' := h
      unfold F_spec_l20Along_b2 at h
      refine ex_seq ?_
      refine ex_seq ?_
      refine ex_region ?_
      refine ro_lt (r_mv (v := iv v_27) rfl) rfl ?_
      refine ro_lt (r_mv (v := iv ((n_r : Int))) rfl) rfl ?_
      refine ro_lt (r_lss rfl rfl) rfl ?_
      refine RO.nil (nx ?_)
      replace h := ite_some h; rcases h with ⟨c29, h⟩ | ⟨c29, h⟩
      rotate_left
      · refine ex_if_f rfl (decide_eq_false c29) ?_
        refine ex_exit (tq_exit ?_)
        obtain rfl := Option.some.inj h
        exact lq_out ⟨⟨rfl, rfl, rfl, rfl, trivial⟩, HS⟩
      refine ex_if_t rfl (decide_eq_true c29) ?_
      refine ex_skip (nx ?_)
      refine ex_seq ?_
      refine ex_block ?_
      refine ex_seq ?_
      refine ex_region ?_
      refine ro_lt (r_as (v := iv 0) rfl) rfl ?_
      refine RO.nil (nx ?_)
      replace h := bind_some h; obtain ⟨y59, e60, h⟩ := h
      refine ex_lbo (fun (st : Bool × Bool × (List (List Int × List Int × Int × Int)) × (List Int) × Int) s' w' => Has s' [(0, .pointer (some ⟨g_r, 0, none⟩)), (2, iv ((n_r : Int))), (3, iv u_18), (4, iv v_27), (5, iv st.2.2.2.2)] ∧ St w H w' (.bx g_r 91 [iv r_vars, v_r_Nodes, v_r_Next, .bool st.1, .bool st.2.1] :: .pr (NS 72 3 n_r v_r_Nodes sh_r st.2.2.1) :: .ow (.sl 3 (.int .i64)) st.2.2.2.1 [v_r_Next] :: FR)) e60 ⟨⟨rfl, rfl, rfl, rfl, rfl, trivial⟩, HS⟩ ?_ ?_
      · rintro ⟨changed_32, bad_33, Nodes_34, Next_35, z_36⟩ c' s' w37 ⟨hs_, HS⟩ h
        rw [has_put hs_]; clear hs_
        try dsimp only at HS
        replace h : F_spec_l20Along_b1 r_vars u_18 n_r v_27 changed_32 bad_33 Nodes_34 Next_35 z_36 = some c' := h
        unfold F_spec_l20Along_b1 at h
        refine ex_seq ?_
        refine ex_seq ?_
        refine ex_region ?_
        refine ro_lt (r_mv (v := iv z_36) rfl) rfl ?_
        refine ro_lt (r_mv (v := .pointer (some ⟨g_r, 0, none⟩)) rfl) rfl ?_
        refine ro_lt (r_nc (HS.boxAt 0 rfl) rfl) rfl ?_
        refine ro_lt (r_fa (HS.boxAt 0 rfl) fd91_0 rfl) rfl ?_
        refine ro_lt (r_ld ((HS.boxAt 0 rfl).seg 0 1) sc3 rfl) rfl ?_
        refine ro_lt (r_lss rfl rfl) rfl ?_
        refine ro_lt (r_mv (v := .bool ((decide (z_36 < r_vars)))) rfl) rfl ?_
        replace h := ite_some h; rcases h with ⟨c38, h⟩ | ⟨c38, h⟩
        rotate_left
        · refine ro_off (sb (decide_eq_false c38)) rfl rfl ?_
          refine ro_off (sb (decide_eq_false c38)) rfl rfl ?_
          refine ro_off (sb (decide_eq_false c38)) rfl rfl ?_
          refine ro_off (sb (decide_eq_false c38)) rfl rfl ?_
          refine ro_off (sb (decide_eq_false c38)) rfl rfl ?_
          refine ro_lt (r_pickf (v := .bool false) (decide_eq_false c38) rfl rfl) rfl ?_
          refine RO.nil (nx ?_)
          refine ex_if_f rfl (rfl) ?_
          refine ex_exit (tq_exit ?_)
          obtain rfl := Option.some.inj h
          exact lq_out ⟨⟨rfl, rfl, rfl, rfl, rfl, trivial⟩, HS⟩
        refine ro_on (sb (decide_eq_true c38)) ?_
        refine ro_lt (r_mv (v := .pointer (some ⟨g_r, 0, none⟩)) rfl) rfl ?_
        refine ro_on (sb (decide_eq_true c38)) ?_
        refine ro_lt (r_nc (HS.boxAt 0 rfl) rfl) rfl ?_
        refine ro_on (sb (decide_eq_true c38)) ?_
        refine ro_lt (r_fa (HS.boxAt 0 rfl) fd91_3 rfl) rfl ?_
        refine ro_on (sb (decide_eq_true c38)) ?_
        refine ro_lt (r_ld ((HS.boxAt 0 rfl).seg 4 1) sc4 rfl) rfl ?_
        refine ro_on (sb (decide_eq_true c38)) ?_
        refine ro_lt (r_not rfl) rfl ?_
        refine ro_lt (r_pickt (v := .bool ((!bad_33))) (decide_eq_true c38) rfl rfl) rfl ?_
        refine RO.nil (nx ?_)
        replace h := ite_some h; rcases h with ⟨c39, h⟩ | ⟨c39, h⟩
        · refine ex_if_f rfl (congrArg (!·) (c39)) ?_
          refine ex_exit (tq_exit ?_)
          obtain rfl := Option.some.inj h
          exact lq_out ⟨⟨rfl, rfl, rfl, rfl, rfl, trivial⟩, HS⟩
        refine ex_if_t rfl (congrArg (!·) (bf c39)) ?_
        refine ex_skip (nx ?_)
        refine ex_seq ?_
        refine ex_block ?_
        refine ex_seq ?_
        refine ex_seq ?_
        refine ex_region ?_
        refine ro_lt (r_mv (v := .pointer (some ⟨g_r, 0, none⟩)) rfl) rfl ?_
        refine ro_lt (r_nc (HS.boxAt 0 rfl) rfl) rfl ?_
        refine ro_lt (r_fa (HS.boxAt 0 rfl) fd91_1 rfl) rfl ?_
        refine ro_lt (r_fa ((HS.boxAt 0 rfl).seg 1 2) fd27_0 rfl) rfl ?_
        refine ro_lt (r_ld (((HS.boxAt 0 rfl).seg 1 2).seg 0 1) sc24 rfl) rfl ?_
        refine ro_lt (r_mv (v := iv u_18) rfl) rfl ?_
        replace h := grd_some h; obtain ⟨g40, h⟩ := h
        refine ro_lt (r_ian HS (k := 1) rfl sl24 g40.1 g40.2 rfl rfl) rfl ?_
        refine ro_lt (r_fa (HS.nsAt 1 rfl (i := u_18.toNat) (by omega)) fd72_1 rfl) rfl ?_
        refine ro_lt (r_ld (v := (sh_r u_18.toNat).2) ((HS.nsAt 1 rfl (i := u_18.toNat) (by omega)).seg 1 1) sc25 rfl) rfl ?_
        refine ro_lt (r_mv (v := iv z_36) rfl) rfl ?_
        replace h := grd_some h; obtain ⟨g41, h⟩ := h
        refine ro_lt (r_ia (HS.nsR2 1 rfl (i := u_18.toNat) (by omega)) sl25 g41.1 g41.2 rfl rfl) rfl ?_
        refine ro_lt (r_ld ((HS.nsR2 1 rfl (i := u_18.toNat) (by omega)).int g41.1 g41.2) sc3 rfl) rfl ?_
        refine ro_lt (r_neq rfl rfl) rfl ?_
        refine RO.nil (nx ?_)
        replace h := ite_some h; rcases h with ⟨c42, h⟩ | ⟨c42, h⟩
        rotate_left
        · refine ex_if_t rfl (congrArg (!·) (decide_eq_false c42)) ?_
          refine ex_exit (tq_exit (blk_exit (nx ?_)))
          refine ex_region ?_
          refine ro_lt (r_mv (v := iv z_36) rfl) rfl ?_
          refine ro_lt (r_addw rfl rfl) rfl ?_
          refine ro_lt (r_as (v := iv (wi (z_36 + 1))) rfl) rfl ?_
          refine RO.nil ?_
          obtain rfl := Option.some.inj h
          exact lq_go ⟨⟨rfl, rfl, rfl, rfl, rfl, trivial⟩, HS⟩
        refine ex_if_f rfl (congrArg (!·) (decide_eq_true c42)) ?_
        refine ex_skip (nx ?_)
        refine ex_seq ?_
        refine ex_region ?_
        refine ro_lt (r_mv (v := .pointer (some ⟨g_r, 0, none⟩)) rfl) rfl ?_
        refine ro_lt (r_nc (HS.boxAt 0 rfl) rfl) rfl ?_
        refine ro_lt (r_fa (HS.boxAt 0 rfl) fd91_1 rfl) rfl ?_
        refine ro_lt (r_lda ((HS.boxAt 0 rfl).seg 1 2) ag27 rfl rfl) rfl ?_
        refine ro_lt (r_mv (v := iv u_18) rfl) rfl ?_
        refine ro_lt (r_mv (v := iv v_27) rfl) rfl ?_
        replace h := bind_some h; obtain ⟨y43, e44, h⟩ := h
        refine ro_hy (o_cf (vs := [.agg #[v_r_Nodes, v_r_Next], iv u_18, iv v_27]) HS rfl (c_spec_NextOf (HS.nsRd 1 rfl) (HS.rd 2 rfl) e44) cf57 rfl) rfl ?_
        rintro _ w45 ⟨rfl, hb, HS⟩
        refine ro_lt (r_as (v := iv y43) rfl) rfl ?_
        refine RO.nil (nx ?_)
        refine ex_seq ?_
        refine ex_region ?_
        refine ro_lt (r_mv (v := iv y43) rfl) rfl ?_
        refine ro_lt (r_eql rfl rfl) rfl ?_
        refine RO.nil (nx ?_)
        replace h := ite_some h; rcases h with ⟨c46, h⟩ | ⟨c46, h⟩
        · refine ex_if_t rfl (decide_eq_true c46) ?_
          refine ex_region ?_
          refine ro_lt (r_mv (v := .pointer (some ⟨g_r, 0, none⟩)) rfl) rfl ?_
          refine ro_lt (r_mv (v := iv z_36) rfl) rfl ?_
          refine ro_lt (r_mv (v := iv v_27) rfl) rfl ?_
          replace h := bind_some h; obtain ⟨y47, e48, h⟩ := h
          refine ro_hy (o_cs (vs := [.pointer (some ⟨g_r, 0, none⟩), iv z_36, iv v_27, iv 2]) (c_spec_l20Reach HS.self e48) cf126 rfl) rfl ?_
          rintro _ w49 ⟨rfl, HS2⟩
          replace HS := HS.from HS2
          refine RO.nil (blk_nx (nx ?_))
          refine ex_region ?_
          refine ro_lt (r_mv (v := iv z_36) rfl) rfl ?_
          refine ro_lt (r_addw rfl rfl) rfl ?_
          refine ro_lt (r_as (v := iv (wi (z_36 + 1))) rfl) rfl ?_
          refine RO.nil ?_
          obtain rfl := Option.some.inj h
          exact lq_go ⟨⟨rfl, rfl, rfl, rfl, rfl, trivial⟩, HS⟩
        refine ex_if_f rfl (decide_eq_false c46) ?_
        refine ex_seq ?_
        refine ex_region ?_
        refine ro_lt (r_mv (v := iv y43) rfl) rfl ?_
        refine ro_lt (r_eql rfl rfl) rfl ?_
        refine ro_lt (r_mv (v := .bool ((decide (y43 = 1)))) rfl) rfl ?_
        replace h := ite_some h; rcases h with ⟨c51, h⟩ | ⟨c51, h⟩
        rotate_left
        · refine ro_off (sb (decide_eq_false c51)) rfl rfl ?_
          refine ro_off (sb (decide_eq_false c51)) rfl rfl ?_
          refine ro_off (sb (decide_eq_false c51)) rfl rfl ?_
          refine ro_off (sb (decide_eq_false c51)) rfl rfl ?_
          refine ro_off (sb (decide_eq_false c51)) rfl rfl ?_
          refine ro_off (sb (decide_eq_false c51)) rfl rfl ?_
          refine ro_off (sb (decide_eq_false c51)) rfl rfl ?_
          refine ro_off (sb (decide_eq_false c51)) rfl rfl ?_
          refine ro_off (sb (decide_eq_false c51)) rfl rfl ?_
          refine ro_off (sb (decide_eq_false c51)) rfl rfl ?_
          refine ro_off (sb (decide_eq_false c51)) rfl rfl ?_
          refine ro_off (sb (decide_eq_false c51)) rfl rfl ?_
          refine ro_off (sb (decide_eq_false c51)) rfl rfl ?_
          refine ro_lt (r_pickf (v := .bool false) (decide_eq_false c51) rfl rfl) rfl ?_
          refine RO.nil (nx ?_)
          refine ex_if_f rfl (rfl) ?_
          refine ex_skip (blk_nx (nx ?_))
          refine ex_region ?_
          refine ro_lt (r_mv (v := iv z_36) rfl) rfl ?_
          refine ro_lt (r_addw rfl rfl) rfl ?_
          refine ro_lt (r_as (v := iv (wi (z_36 + 1))) rfl) rfl ?_
          refine RO.nil ?_
          obtain rfl := Option.some.inj h
          exact lq_go ⟨⟨rfl, rfl, rfl, rfl, rfl, trivial⟩, HS⟩
        refine ro_on (sb (decide_eq_true c51)) ?_
        refine ro_lt (r_mv (v := .pointer (some ⟨g_r, 0, none⟩)) rfl) rfl ?_
        refine ro_on (sb (decide_eq_true c51)) ?_
        refine ro_lt (r_nc (HS.boxAt 0 rfl) rfl) rfl ?_
        refine ro_on (sb (decide_eq_true c51)) ?_
        refine ro_lt (r_fa (HS.boxAt 0 rfl) fd91_1 rfl) rfl ?_
        refine ro_on (sb (decide_eq_true c51)) ?_
        refine ro_lt (r_fa ((HS.boxAt 0 rfl).seg 1 2) fd27_0 rfl) rfl ?_
        refine ro_on (sb (decide_eq_true c51)) ?_
        refine ro_lt (r_ld (((HS.boxAt 0 rfl).seg 1 2).seg 0 1) sc24 rfl) rfl ?_
        refine ro_on (sb (decide_eq_true c51)) ?_
        refine ro_lt (r_mv (v := iv v_27) rfl) rfl ?_
        replace h := grd_some h; obtain ⟨g52, h⟩ := h
        refine ro_on (sb (decide_eq_true c51)) ?_
        refine ro_lt (r_ian HS (k := 1) rfl sl24 g52.1 g52.2 rfl rfl) rfl ?_
        refine ro_on (sb (decide_eq_true c51)) ?_
        refine ro_lt (r_fa (HS.nsAt 1 rfl (i := v_27.toNat) (by omega)) fd72_1 rfl) rfl ?_
        refine ro_on (sb (decide_eq_true c51)) ?_
        refine ro_lt (r_ld (v := (sh_r v_27.toNat).2) ((HS.nsAt 1 rfl (i := v_27.toNat) (by omega)).seg 1 1) sc25 rfl) rfl ?_
        refine ro_on (sb (decide_eq_true c51)) ?_
        refine ro_lt (r_mv (v := iv z_36) rfl) rfl ?_
        replace h := grd_some h; obtain ⟨g53, h⟩ := h
        refine ro_on (sb (decide_eq_true c51)) ?_
        refine ro_lt (r_ia (HS.nsR2 1 rfl (i := v_27.toNat) (by omega)) sl25 g53.1 g53.2 rfl rfl) rfl ?_
        refine ro_on (sb (decide_eq_true c51)) ?_
        refine ro_lt (r_ld ((HS.nsR2 1 rfl (i := v_27.toNat) (by omega)).int g53.1 g53.2) sc3 rfl) rfl ?_
        refine ro_on (sb (decide_eq_true c51)) ?_
        refine ro_lt (r_eql rfl rfl) rfl ?_
        refine ro_lt (r_pickt (v := .bool ((decide (((Nodes_34.getD v_27.toNat dN).2.1).getD z_36.toNat 0 = 0)))) (decide_eq_true c51) rfl rfl) rfl ?_
        refine RO.nil (nx ?_)
        replace h := ite_some h; rcases h with ⟨c54, h⟩ | ⟨c54, h⟩
        rotate_left
        · refine ex_if_f rfl (decide_eq_false c54) ?_
          refine ex_skip (blk_nx (nx ?_))
          refine ex_region ?_
          refine ro_lt (r_mv (v := iv z_36) rfl) rfl ?_
          refine ro_lt (r_addw rfl rfl) rfl ?_
          refine ro_lt (r_as (v := iv (wi (z_36 + 1))) rfl) rfl ?_
          refine RO.nil ?_
          obtain rfl := Option.some.inj h
          exact lq_go ⟨⟨rfl, rfl, rfl, rfl, rfl, trivial⟩, HS⟩
        refine ex_if_t rfl (decide_eq_true c54) ?_
        refine ex_region ?_
        refine ro_lt (r_mv (v := .pointer (some ⟨g_r, 0, none⟩)) rfl) rfl ?_
        refine ro_lt (r_mv (v := iv u_18) rfl) rfl ?_
        refine ro_lt (r_mv (v := iv v_27) rfl) rfl ?_
        replace h := bind_some h; obtain ⟨y55, e56, h⟩ := h
        refine ro_hy (o_cs (vs := [.pointer (some ⟨g_r, 0, none⟩), iv u_18, iv v_27, iv 0]) (c_spec_l20Next HS.self e56) cf127 rfl) rfl ?_
        rintro _ w57 ⟨rfl, HS2⟩
        replace HS := HS.from HS2
        refine RO.nil (blk_nx (nx ?_))
        refine ex_region ?_
        refine ro_lt (r_mv (v := iv z_36) rfl) rfl ?_
        refine ro_lt (r_addw rfl rfl) rfl ?_
        refine ro_lt (r_as (v := iv (wi (z_36 + 1))) rfl) rfl ?_
        refine RO.nil ?_
        obtain rfl := Option.some.inj h
        exact lq_go ⟨⟨rfl, rfl, rfl, rfl, rfl, trivial⟩, HS⟩
      rintro s' w61 ⟨hs_, HS⟩
      rw [has_put hs_]; clear hs_
      refine (blk_nx (nx ?_))
      refine ex_region ?_
      refine ro_lt (r_mv (v := iv v_27) rfl) rfl ?_
      refine ro_lt (r_addw rfl rfl) rfl ?_
      refine ro_lt (r_as (v := iv (wi (v_27 + 1))) rfl) rfl ?_
      refine RO.nil ?_
      obtain rfl := Option.some.inj h
      exact lq_go ⟨⟨rfl, rfl, rfl, rfl, trivial⟩, HS⟩
    rintro s' w65 ⟨hs_, HS⟩
    rw [has_put hs_]; clear hs_
    refine (blk_nx (nx ?_))
    refine ex_region ?_
    refine ro_lt (r_mv (v := iv u_18) rfl) rfl ?_
    refine ro_lt (r_addw rfl rfl) rfl ?_
    refine ro_lt (r_as (v := iv (wi (u_18 + 1))) rfl) rfl ?_
    refine RO.nil ?_
    obtain rfl := Option.some.inj h
    exact lq_go ⟨⟨rfl, rfl, rfl, trivial⟩, HS⟩
  rintro s' w69 ⟨hs_, HS⟩
  rw [has_put hs_]; clear hs_
  obtain rfl := Option.some.inj h
  exact ret0 (.inl rfl) rfl ⟨rfl, HS⟩
theorem c_spec_l20Acyclic {w : World} {H : Hp} {FR : List Ob} {g_r : Nat} {r_vars : Int} {v_r_Nodes : Value} {n_r : Nat} {sh_r : Shp} {r_Nodes : List (List Int × List Int × Int × Int)} {v_r_Next : Value} {r_Next : List Int} {r_changed : Bool} {r_bad : Bool} (HS : St w H w (.bx g_r 91 [iv r_vars, v_r_Nodes, v_r_Next, .bool r_changed, .bool r_bad] :: .pr (NS 72 3 n_r v_r_Nodes sh_r r_Nodes) :: .ow (.sl 3 (.int .i64)) r_Next [v_r_Next] :: FR)) {r : List (List Int × List Int × Int × Int) × List Int × Bool × Bool} (h : F_spec_l20Acyclic r_vars n_r r_Nodes r_Next r_changed r_bad = some r) : Calls Try.prog 78 [.pointer (some ⟨g_r, 0, none⟩)].toArray w (((fun r => PS (.tuple #[]) fun w' => St w H w' (.bx g_r 91 [iv r_vars, v_r_Nodes, v_r_Next, .bool r.2.2.1, .bool r.2.2.2] :: .pr (NS 72 3 n_r v_r_Nodes sh_r r.1) :: .ow (.sl 3 (.int .i64)) r.2.1 [v_r_Next] :: FR)) : (List (List Int × List Int × Int × Int) × List Int × Bool × Bool) → Ending → World → Prop) r) := by
  unfold F_spec_l20Acyclic at h
  refine calls_ex (n := 96) Try.func78 rfl Try.ntmps78 (Nat.le_of_ble_eq_true rfl) ?_
  refine ex_seq ?_
  refine ex_region ?_
  refine ro_lt (r_mv (v := .pointer (some ⟨g_r, 0, none⟩)) rfl) rfl ?_
  refine ro_lt (r_nc (HS.boxAt 0 rfl) rfl) rfl ?_
  refine ro_lt (r_fa (HS.boxAt 0 rfl) fd91_1 rfl) rfl ?_
  refine ro_lt (r_fa ((HS.boxAt 0 rfl).seg 1 2) fd27_0 rfl) rfl ?_
  refine ro_lt (r_ld (((HS.boxAt 0 rfl).seg 1 2).seg 0 1) sc24 rfl) rfl ?_
  have b4 := HS.nsBig 1 rfl
  refine ro_lt (r_lenn (m := 4) HS (k := 1) rfl sl24 rfl) rfl ?_
  refine ro_lt (r_as (v := iv ((n_r : Int))) rfl) rfl ?_
  refine RO.nil (nx ?_)
  refine ex_seq ?_
  refine ex_seq ?_
  refine ex_region ?_
  refine ro_lt (r_as (v := iv 0) rfl) rfl ?_
  refine RO.nil (nx ?_)
  replace h := bind_some h; obtain ⟨y28, e29, h⟩ := h
  refine ex_lbo (fun (st : Bool × Bool × (List (List Int × List Int × Int × Int)) × (List Int) × Int) s' w' => Has s' [(0, .pointer (some ⟨g_r, 0, none⟩)), (2, iv ((n_r : Int))), (3, iv st.2.2.2.2)] ∧ St w H w' (.bx g_r 91 [iv r_vars, v_r_Nodes, v_r_Next, .bool st.1, .bool st.2.1] :: .pr (NS 72 3 n_r v_r_Nodes sh_r st.2.2.1) :: .ow (.sl 3 (.int .i64)) st.2.2.2.1 [v_r_Next] :: FR)) e29 ⟨⟨rfl, rfl, rfl, trivial⟩, HS⟩ ?_ ?_
  · rintro ⟨changed_14, bad_15, Nodes_16, Next_17, u_18⟩ c' s' w19 ⟨hs_, HS⟩ h
    rw [has_put hs_]; clear hs_
    try dsimp only at HS
    replace h : F_spec_l20Acyclic_b1 n_r r_vars changed_14 bad_15 Nodes_16 Next_17 u_18 = some c' := h
    unfold F_spec_l20Acyclic_b1 at h
    refine ex_seq ?_
    refine ex_seq ?_
    refine ex_region ?_
    refine ro_lt (r_mv (v := iv u_18) rfl) rfl ?_
    refine ro_lt (r_mv (v := iv ((n_r : Int))) rfl) rfl ?_
    refine ro_lt (r_lss rfl rfl) rfl ?_
    refine ro_lt (r_mv (v := .bool ((decide (u_18 < (n_r : Int))))) rfl) rfl ?_
    replace h := ite_some h; rcases h with ⟨c20, h⟩ | ⟨c20, h⟩
    rotate_left
    · refine ro_off (sb (decide_eq_false c20)) rfl rfl ?_
      refine ro_off (sb (decide_eq_false c20)) rfl rfl ?_
      refine ro_off (sb (decide_eq_false c20)) rfl rfl ?_
      refine ro_off (sb (decide_eq_false c20)) rfl rfl ?_
      refine ro_off (sb (decide_eq_false c20)) rfl rfl ?_
      refine ro_lt (r_pickf (v := .bool false) (decide_eq_false c20) rfl rfl) rfl ?_
      refine RO.nil (nx ?_)
      refine ex_if_f rfl (rfl) ?_
      refine ex_exit (tq_exit ?_)
      obtain rfl := Option.some.inj h
      exact lq_out ⟨⟨rfl, rfl, rfl, trivial⟩, HS⟩
    refine ro_on (sb (decide_eq_true c20)) ?_
    refine ro_lt (r_mv (v := .pointer (some ⟨g_r, 0, none⟩)) rfl) rfl ?_
    refine ro_on (sb (decide_eq_true c20)) ?_
    refine ro_lt (r_nc (HS.boxAt 0 rfl) rfl) rfl ?_
    refine ro_on (sb (decide_eq_true c20)) ?_
    refine ro_lt (r_fa (HS.boxAt 0 rfl) fd91_3 rfl) rfl ?_
    refine ro_on (sb (decide_eq_true c20)) ?_
    refine ro_lt (r_ld ((HS.boxAt 0 rfl).seg 4 1) sc4 rfl) rfl ?_
    refine ro_on (sb (decide_eq_true c20)) ?_
    refine ro_lt (r_not rfl) rfl ?_
    refine ro_lt (r_pickt (v := .bool ((!bad_15))) (decide_eq_true c20) rfl rfl) rfl ?_
    refine RO.nil (nx ?_)
    replace h := ite_some h; rcases h with ⟨c21, h⟩ | ⟨c21, h⟩
    · refine ex_if_f rfl (congrArg (!·) (c21)) ?_
      refine ex_exit (tq_exit ?_)
      obtain rfl := Option.some.inj h
      exact lq_out ⟨⟨rfl, rfl, rfl, trivial⟩, HS⟩
    refine ex_if_t rfl (congrArg (!·) (bf c21)) ?_
    refine ex_skip (nx ?_)
    refine ex_seq ?_
    refine ex_block ?_
    refine ex_seq ?_
    refine ex_region ?_
    refine ro_lt (r_mv (v := .pointer (some ⟨g_r, 0, none⟩)) rfl) rfl ?_
    refine ro_lt (r_nc (HS.boxAt 0 rfl) rfl) rfl ?_
    refine ro_lt (r_fa (HS.boxAt 0 rfl) fd91_1 rfl) rfl ?_
    refine ro_lt (r_fa ((HS.boxAt 0 rfl).seg 1 2) fd27_0 rfl) rfl ?_
    refine ro_lt (r_ld (((HS.boxAt 0 rfl).seg 1 2).seg 0 1) sc24 rfl) rfl ?_
    refine ro_lt (r_mv (v := iv u_18) rfl) rfl ?_
    replace h := grd_some h; obtain ⟨g22, h⟩ := h
    refine ro_lt (r_ian HS (k := 1) rfl sl24 g22.1 g22.2 rfl rfl) rfl ?_
    refine ro_lt (r_fa (HS.nsAt 1 rfl (i := u_18.toNat) (by omega)) fd72_3 rfl) rfl ?_
    refine ro_lt (r_ld (v := iv ((Nodes_16.getD u_18.toNat dN).2.2.2)) ((HS.nsAt 1 rfl (i := u_18.toNat) (by omega)).seg 3 1) sc3 rfl) rfl ?_
    refine ro_lt (r_eql rfl rfl) rfl ?_
    refine RO.nil (nx ?_)
    replace h := ite_some h; rcases h with ⟨c23, h⟩ | ⟨c23, h⟩
    rotate_left
    · refine ex_if_f rfl (decide_eq_false c23) ?_
      refine ex_skip (blk_nx (nx ?_))
      refine ex_region ?_
      refine ro_lt (r_mv (v := iv u_18) rfl) rfl ?_
      refine ro_lt (r_addw rfl rfl) rfl ?_
      refine ro_lt (r_as (v := iv (wi (u_18 + 1))) rfl) rfl ?_
      refine RO.nil ?_
      obtain rfl := Option.some.inj h
      exact lq_go ⟨⟨rfl, rfl, rfl, trivial⟩, HS⟩
    refine ex_if_t rfl (decide_eq_true c23) ?_
    refine ex_region ?_
    refine ro_lt (r_mv (v := .pointer (some ⟨g_r, 0, none⟩)) rfl) rfl ?_
    refine ro_lt (r_mv (v := iv u_18) rfl) rfl ?_
    refine ro_lt (r_mv (v := iv u_18) rfl) rfl ?_
    replace h := bind_some h; obtain ⟨y24, e25, h⟩ := h
    refine ro_hy (o_cs (vs := [.pointer (some ⟨g_r, 0, none⟩), iv u_18, iv u_18, iv 0]) (c_spec_l20Next HS.self e25) cf127 rfl) rfl ?_
    rintro _ w26 ⟨rfl, HS2⟩
    replace HS := HS.from HS2
    refine RO.nil (blk_nx (nx ?_))
    refine ex_region ?_
    refine ro_lt (r_mv (v := iv u_18) rfl) rfl ?_
    refine ro_lt (r_addw rfl rfl) rfl ?_
    refine ro_lt (r_as (v := iv (wi (u_18 + 1))) rfl) rfl ?_
    refine RO.nil ?_
    obtain rfl := Option.some.inj h
    exact lq_go ⟨⟨rfl, rfl, rfl, trivial⟩, HS⟩
  rintro s' w30 ⟨hs_, HS⟩
  rw [has_put hs_]; clear hs_
  refine (nx ?_)
  refine ex_seq ?_
  refine ex_region ?_
  refine ro_lt (r_as (v := iv 0) rfl) rfl ?_
  refine RO.nil (nx ?_)
  replace h := bind_some h; obtain ⟨y85, e86, h⟩ := h
  refine ex_lbo (fun (st : Bool × Bool × (List (List Int × List Int × Int × Int)) × (List Int) × Int) s' w' => Has s' [(0, .pointer (some ⟨g_r, 0, none⟩)), (2, iv ((n_r : Int))), (4, iv st.2.2.2.2)] ∧ St w H w' (.bx g_r 91 [iv r_vars, v_r_Nodes, v_r_Next, .bool st.1, .bool st.2.1] :: .pr (NS 72 3 n_r v_r_Nodes sh_r st.2.2.1) :: .ow (.sl 3 (.int .i64)) st.2.2.2.1 [v_r_Next] :: FR)) e86 ⟨⟨rfl, rfl, rfl, trivial⟩, HS⟩ ?_ ?_
  · rintro ⟨changed_41, bad_42, Nodes_43, Next_44, z_45⟩ c' s' w46 ⟨hs_, HS⟩ h
    rw [has_put hs_]; clear hs_
    try dsimp only at HS
    replace h : F_spec_l20Acyclic_b4 r_vars n_r changed_41 bad_42 Nodes_43 Next_44 z_45 = some c' := h
    unfold F_spec_l20Acyclic_b4 at h
    refine ex_seq ?_
    refine ex_seq ?_
    refine ex_region ?_
    refine ro_lt (r_mv (v := iv z_45) rfl) rfl ?_
    refine ro_lt (r_mv (v := .pointer (some ⟨g_r, 0, none⟩)) rfl) rfl ?_
    refine ro_lt (r_nc (HS.boxAt 0 rfl) rfl) rfl ?_
    refine ro_lt (r_fa (HS.boxAt 0 rfl) fd91_0 rfl) rfl ?_
    refine ro_lt (r_ld ((HS.boxAt 0 rfl).seg 0 1) sc3 rfl) rfl ?_
    refine ro_lt (r_lss rfl rfl) rfl ?_
    refine RO.nil (nx ?_)
    replace h := ite_some h; rcases h with ⟨c47, h⟩ | ⟨c47, h⟩
    rotate_left
    · refine ex_if_f rfl (decide_eq_false c47) ?_
      refine ex_exit (tq_exit ?_)
      obtain rfl := Option.some.inj h
      exact lq_out ⟨⟨rfl, rfl, rfl, trivial⟩, HS⟩
    refine ex_if_t rfl (decide_eq_true c47) ?_
    refine ex_skip (nx ?_)
    refine ex_seq ?_
    refine ex_block ?_
    refine ex_seq ?_
    refine ex_region ?_
    refine ro_lt (r_as (v := iv 0) rfl) rfl ?_
    refine RO.nil (nx ?_)
    replace h := bind_some h; obtain ⟨y81, e82, h⟩ := h
    refine ex_lbo (fun (st : Bool × Bool × (List (List Int × List Int × Int × Int)) × (List Int) × Int) s' w' => Has s' [(0, .pointer (some ⟨g_r, 0, none⟩)), (2, iv ((n_r : Int))), (4, iv z_45), (5, iv st.2.2.2.2)] ∧ St w H w' (.bx g_r 91 [iv r_vars, v_r_Nodes, v_r_Next, .bool st.1, .bool st.2.1] :: .pr (NS 72 3 n_r v_r_Nodes sh_r st.2.2.1) :: .ow (.sl 3 (.int .i64)) st.2.2.2.1 [v_r_Next] :: FR)) e82 ⟨⟨rfl, rfl, rfl, rfl, trivial⟩, HS⟩ ?_ ?_
    · rintro ⟨changed_50, bad_51, Nodes_52, Next_53, u_54⟩ c' s' w55 ⟨hs_, HS⟩ h
      rw [has_put hs_]; clear hs_
      try dsimp only at HS
      replace h : F_spec_l20Acyclic_b3 n_r z_45 r_vars changed_50 bad_51 Nodes_52 Next_53 u_54 = some c' := h
      unfold F_spec_l20Acyclic_b3 at h
      refine ex_seq ?_
      refine ex_seq ?_
      refine ex_region ?_
      refine ro_lt (r_mv (v := iv u_54) rfl) rfl ?_
      refine ro_lt (r_mv (v := iv ((n_r : Int))) rfl) rfl ?_
      refine ro_lt (r_lss rfl rfl) rfl ?_
      refine RO.nil (nx ?_)
      replace h := ite_some h; rcases h with ⟨c56, h⟩ | ⟨c56, h⟩
      rotate_left
      · refine ex_if_f rfl (decide_eq_false c56) ?_
        refine ex_exit (tq_exit ?_)
        obtain rfl := Option.some.inj h
        exact lq_out ⟨⟨rfl, rfl, rfl, rfl, trivial⟩, HS⟩
      refine ex_if_t rfl (decide_eq_true c56) ?_
      refine ex_skip (nx ?_)
      refine ex_seq ?_
      refine ex_block ?_
      refine ex_seq ?_
      refine ex_region ?_
      refine ro_lt (r_as (v := iv 0) rfl) rfl ?_
      refine RO.nil (nx ?_)
      replace h := bind_some h; obtain ⟨y77, e78, h⟩ := h
      refine ex_lbo (fun (st : Bool × Bool × (List (List Int × List Int × Int × Int)) × (List Int) × Int) s' w' => Has s' [(0, .pointer (some ⟨g_r, 0, none⟩)), (2, iv ((n_r : Int))), (4, iv z_45), (5, iv u_54), (6, iv st.2.2.2.2)] ∧ St w H w' (.bx g_r 91 [iv r_vars, v_r_Nodes, v_r_Next, .bool st.1, .bool st.2.1] :: .pr (NS 72 3 n_r v_r_Nodes sh_r st.2.2.1) :: .ow (.sl 3 (.int .i64)) st.2.2.2.1 [v_r_Next] :: FR)) e78 ⟨⟨rfl, rfl, rfl, rfl, rfl, trivial⟩, HS⟩ ?_ ?_
      · rintro ⟨changed_59, bad_60, Nodes_61, Next_62, v_63⟩ c' s' w64 ⟨hs_, HS⟩ h
        rw [has_put hs_]; clear hs_
        try dsimp only at HS
        replace h : F_spec_l20Acyclic_b2 n_r u_54 z_45 r_vars changed_59 bad_60 Nodes_61 Next_62 v_63 = some c' := h
        unfold F_spec_l20Acyclic_b2 at h
        refine ex_seq ?_
        refine ex_seq ?_
        refine ex_region ?_
        refine ro_lt (r_mv (v := iv v_63) rfl) rfl ?_
        refine ro_lt (r_mv (v := iv ((n_r : Int))) rfl) rfl ?_
        refine ro_lt (r_lss rfl rfl) rfl ?_
        refine ro_lt (r_mv (v := .bool ((decide (v_63 < (n_r : Int))))) rfl) rfl ?_
        replace h := ite_some h; rcases h with ⟨c65, h⟩ | ⟨c65, h⟩
        rotate_left
        · refine ro_off (sb (decide_eq_false c65)) rfl rfl ?_
          refine ro_off (sb (decide_eq_false c65)) rfl rfl ?_
          refine ro_off (sb (decide_eq_false c65)) rfl rfl ?_
          refine ro_off (sb (decide_eq_false c65)) rfl rfl ?_
          refine ro_off (sb (decide_eq_false c65)) rfl rfl ?_
          refine ro_lt (r_pickf (v := .bool false) (decide_eq_false c65) rfl rfl) rfl ?_
          refine RO.nil (nx ?_)
          refine ex_if_f rfl (rfl) ?_
          refine ex_exit (tq_exit ?_)
          obtain rfl := Option.some.inj h
          exact lq_out ⟨⟨rfl, rfl, rfl, rfl, rfl, trivial⟩, HS⟩
        refine ro_on (sb (decide_eq_true c65)) ?_
        refine ro_lt (r_mv (v := .pointer (some ⟨g_r, 0, none⟩)) rfl) rfl ?_
        refine ro_on (sb (decide_eq_true c65)) ?_
        refine ro_lt (r_nc (HS.boxAt 0 rfl) rfl) rfl ?_
        refine ro_on (sb (decide_eq_true c65)) ?_
        refine ro_lt (r_fa (HS.boxAt 0 rfl) fd91_3 rfl) rfl ?_
        refine ro_on (sb (decide_eq_true c65)) ?_
        refine ro_lt (r_ld ((HS.boxAt 0 rfl).seg 4 1) sc4 rfl) rfl ?_
        refine ro_on (sb (decide_eq_true c65)) ?_
        refine ro_lt (r_not rfl) rfl ?_
        refine ro_lt (r_pickt (v := .bool ((!bad_60))) (decide_eq_true c65) rfl rfl) rfl ?_
        refine RO.nil (nx ?_)
        replace h := ite_some h; rcases h with ⟨c66, h⟩ | ⟨c66, h⟩
        · refine ex_if_f rfl (congrArg (!·) (c66)) ?_
          refine ex_exit (tq_exit ?_)
          obtain rfl := Option.some.inj h
          exact lq_out ⟨⟨rfl, rfl, rfl, rfl, rfl, trivial⟩, HS⟩
        refine ex_if_t rfl (congrArg (!·) (bf c66)) ?_
        refine ex_skip (nx ?_)
        refine ex_seq ?_
        refine ex_block ?_
        refine ex_seq ?_
        refine ex_region ?_
        refine ro_lt (r_mv (v := .pointer (some ⟨g_r, 0, none⟩)) rfl) rfl ?_
        refine ro_lt (r_nc (HS.boxAt 0 rfl) rfl) rfl ?_
        refine ro_lt (r_fa (HS.boxAt 0 rfl) fd91_1 rfl) rfl ?_
        refine ro_lt (r_fa ((HS.boxAt 0 rfl).seg 1 2) fd27_0 rfl) rfl ?_
        refine ro_lt (r_ld (((HS.boxAt 0 rfl).seg 1 2).seg 0 1) sc24 rfl) rfl ?_
        refine ro_lt (r_mv (v := iv u_54) rfl) rfl ?_
        replace h := grd_some h; obtain ⟨g67, h⟩ := h
        refine ro_lt (r_ian HS (k := 1) rfl sl24 g67.1 g67.2 rfl rfl) rfl ?_
        refine ro_lt (r_fa (HS.nsAt 1 rfl (i := u_54.toNat) (by omega)) fd72_0 rfl) rfl ?_
        refine ro_lt (r_ld (v := (sh_r u_54.toNat).1) ((HS.nsAt 1 rfl (i := u_54.toNat) (by omega)).seg 0 1) sc25 rfl) rfl ?_
        refine ro_lt (r_mv (v := iv z_45) rfl) rfl ?_
        replace h := grd_some h; obtain ⟨g68, h⟩ := h
        refine ro_lt (r_ia (HS.nsR1 1 rfl (i := u_54.toNat) (by omega)) sl25 g68.1 g68.2 rfl rfl) rfl ?_
        refine ro_lt (r_ld ((HS.nsR1 1 rfl (i := u_54.toNat) (by omega)).int g68.1 g68.2) sc3 rfl) rfl ?_
        refine ro_lt (r_eql rfl rfl) rfl ?_
        refine ro_lt (r_mv (v := .bool ((decide (((Nodes_61.getD u_54.toNat dN).1).getD z_45.toNat 0 = 2)))) rfl) rfl ?_
        replace h := ite_some h; rcases h with ⟨c69, h⟩ | ⟨c69, h⟩
        rotate_left
        · refine ro_off (sb (decide_eq_false c69)) rfl rfl ?_
          refine ro_off (sb (decide_eq_false c69)) rfl rfl ?_
          refine ro_off (sb (decide_eq_false c69)) rfl rfl ?_
          refine ro_off (sb (decide_eq_false c69)) rfl rfl ?_
          refine ro_off (sb (decide_eq_false c69)) rfl rfl ?_
          refine ro_off (sb (decide_eq_false c69)) rfl rfl ?_
          refine ro_off (sb (decide_eq_false c69)) rfl rfl ?_
          refine ro_off (sb (decide_eq_false c69)) rfl rfl ?_
          refine ro_off (sb (decide_eq_false c69)) rfl rfl ?_
          refine ro_off (sb (decide_eq_false c69)) rfl rfl ?_
          refine ro_off (sb (decide_eq_false c69)) rfl rfl ?_
          refine ro_off (sb (decide_eq_false c69)) rfl rfl ?_
          refine ro_off (sb (decide_eq_false c69)) rfl rfl ?_
          refine ro_lt (r_pickf (v := .bool false) (decide_eq_false c69) rfl rfl) rfl ?_
          refine RO.nil (nx ?_)
          refine ex_if_f rfl (rfl) ?_
          refine ex_skip (blk_nx (nx ?_))
          refine ex_region ?_
          refine ro_lt (r_mv (v := iv v_63) rfl) rfl ?_
          refine ro_lt (r_addw rfl rfl) rfl ?_
          refine ro_lt (r_as (v := iv (wi (v_63 + 1))) rfl) rfl ?_
          refine RO.nil ?_
          obtain rfl := Option.some.inj h
          exact lq_go ⟨⟨rfl, rfl, rfl, rfl, rfl, trivial⟩, HS⟩
        refine ro_on (sb (decide_eq_true c69)) ?_
        refine ro_lt (r_mv (v := .pointer (some ⟨g_r, 0, none⟩)) rfl) rfl ?_
        refine ro_on (sb (decide_eq_true c69)) ?_
        refine ro_lt (r_nc (HS.boxAt 0 rfl) rfl) rfl ?_
        refine ro_on (sb (decide_eq_true c69)) ?_
        refine ro_lt (r_fa (HS.boxAt 0 rfl) fd91_1 rfl) rfl ?_
        refine ro_on (sb (decide_eq_true c69)) ?_
        refine ro_lt (r_fa ((HS.boxAt 0 rfl).seg 1 2) fd27_0 rfl) rfl ?_
        refine ro_on (sb (decide_eq_true c69)) ?_
        refine ro_lt (r_ld (((HS.boxAt 0 rfl).seg 1 2).seg 0 1) sc24 rfl) rfl ?_
        refine ro_on (sb (decide_eq_true c69)) ?_
        refine ro_lt (r_mv (v := iv v_63) rfl) rfl ?_
        replace h := grd_some h; obtain ⟨g70, h⟩ := h
        refine ro_on (sb (decide_eq_true c69)) ?_
        refine ro_lt (r_ian HS (k := 1) rfl sl24 g70.1 g70.2 rfl rfl) rfl ?_
        refine ro_on (sb (decide_eq_true c69)) ?_
        refine ro_lt (r_fa (HS.nsAt 1 rfl (i := v_63.toNat) (by omega)) fd72_1 rfl) rfl ?_
        refine ro_on (sb (decide_eq_true c69)) ?_
        refine ro_lt (r_ld (v := (sh_r v_63.toNat).2) ((HS.nsAt 1 rfl (i := v_63.toNat) (by omega)).seg 1 1) sc25 rfl) rfl ?_
        refine ro_on (sb (decide_eq_true c69)) ?_
        refine ro_lt (r_mv (v := iv z_45) rfl) rfl ?_
        replace h := grd_some h; obtain ⟨g71, h⟩ := h
        refine ro_on (sb (decide_eq_true c69)) ?_
        refine ro_lt (r_ia (HS.nsR2 1 rfl (i := v_63.toNat) (by omega)) sl25 g71.1 g71.2 rfl rfl) rfl ?_
        refine ro_on (sb (decide_eq_true c69)) ?_
        refine ro_lt (r_ld ((HS.nsR2 1 rfl (i := v_63.toNat) (by omega)).int g71.1 g71.2) sc3 rfl) rfl ?_
        refine ro_on (sb (decide_eq_true c69)) ?_
        refine ro_lt (r_eql rfl rfl) rfl ?_
        refine ro_lt (r_pickt (v := .bool ((decide (((Nodes_61.getD v_63.toNat dN).2.1).getD z_45.toNat 0 = 2)))) (decide_eq_true c69) rfl rfl) rfl ?_
        refine RO.nil (nx ?_)
        replace h := ite_some h; rcases h with ⟨c72, h⟩ | ⟨c72, h⟩
        rotate_left
        · refine ex_if_f rfl (decide_eq_false c72) ?_
          refine ex_skip (blk_nx (nx ?_))
          refine ex_region ?_
          refine ro_lt (r_mv (v := iv v_63) rfl) rfl ?_
          refine ro_lt (r_addw rfl rfl) rfl ?_
          refine ro_lt (r_as (v := iv (wi (v_63 + 1))) rfl) rfl ?_
          refine RO.nil ?_
          obtain rfl := Option.some.inj h
          exact lq_go ⟨⟨rfl, rfl, rfl, rfl, rfl, trivial⟩, HS⟩
        refine ex_if_t rfl (decide_eq_true c72) ?_
        refine ex_region ?_
        refine ro_lt (r_mv (v := .pointer (some ⟨g_r, 0, none⟩)) rfl) rfl ?_
        refine ro_lt (r_mv (v := iv v_63) rfl) rfl ?_
        refine ro_lt (r_mv (v := iv u_54) rfl) rfl ?_
        replace h := bind_some h; obtain ⟨y73, e74, h⟩ := h
        refine ro_hy (o_cs (vs := [.pointer (some ⟨g_r, 0, none⟩), iv v_63, iv u_54, iv 0]) (c_spec_l20Next HS.self e74) cf127 rfl) rfl ?_
        rintro _ w75 ⟨rfl, HS2⟩
        replace HS := HS.from HS2
        refine RO.nil (blk_nx (nx ?_))
        refine ex_region ?_
        refine ro_lt (r_mv (v := iv v_63) rfl) rfl ?_
        refine ro_lt (r_addw rfl rfl) rfl ?_
        refine ro_lt (r_as (v := iv (wi (v_63 + 1))) rfl) rfl ?_
        refine RO.nil ?_
        obtain rfl := Option.some.inj h
        exact lq_go ⟨⟨rfl, rfl, rfl, rfl, rfl, trivial⟩, HS⟩
      rintro s' w79 ⟨hs_, HS⟩
      rw [has_put hs_]; clear hs_
      refine (blk_nx (nx ?_))
      refine ex_region ?_
      refine ro_lt (r_mv (v := iv u_54) rfl) rfl ?_
      refine ro_lt (r_addw rfl rfl) rfl ?_
      refine ro_lt (r_as (v := iv (wi (u_54 + 1))) rfl) rfl ?_
      refine RO.nil ?_
      obtain rfl := Option.some.inj h
      exact lq_go ⟨⟨rfl, rfl, rfl, rfl, trivial⟩, HS⟩
    rintro s' w83 ⟨hs_, HS⟩
    rw [has_put hs_]; clear hs_
    refine (blk_nx (nx ?_))
    refine ex_region ?_
    refine ro_lt (r_mv (v := iv z_45) rfl) rfl ?_
    refine ro_lt (r_addw rfl rfl) rfl ?_
    refine ro_lt (r_as (v := iv (wi (z_45 + 1))) rfl) rfl ?_
    refine RO.nil ?_
    obtain rfl := Option.some.inj h
    exact lq_go ⟨⟨rfl, rfl, rfl, trivial⟩, HS⟩
  rintro s' w87 ⟨hs_, HS⟩
  rw [has_put hs_]; clear hs_
  obtain rfl := Option.some.inj h
  exact ret0 (.inl rfl) rfl ⟨rfl, HS⟩
theorem c_spec_l20Sources {w : World} {r_0 : Int × ((List (List Int × List Int × Int × Int)) × List Int) × Bool × Bool} {p_r_0 : Value} {v_r_01 : Value} {v_r_02 : Value} {z : Int} {v : Int} (l_r_0 : AtH (hp w) p_r_0 [iv r_0.1, v_r_01, v_r_02, .bool r_0.2.2.1, .bool r_0.2.2.2]) (r_r_01 : Rd (.sl 72 (.prod (.sl 3 (.int .i64)) (.prod (.sl 3 (.int .i64)) (.prod (.int .i64) (.int .i64))))) (hp w) r_0.2.1.1 [v_r_01]) (r_r_02 : Rd (.sl 3 (.int .i64)) (hp w) r_0.2.1.2 [v_r_02]) {r : (List Int)} (h : F_spec_l20Sources r_0 z v = some r) : Calls Try.prog 128 [p_r_0, iv z, iv v].toArray w (P1 (.sl 3 (.int .i64)) w r) := by
  unfold F_spec_l20Sources at h
  have HS := St.init w
  have hs := Sub.refl (hp w)
  refine calls_ex (n := 48) Try.func128 rfl Try.ntmps128 (Nat.le_of_ble_eq_true rfl) ?_
  refine ex_seq ?_
  refine ex_region ?_
  refine ro_lt (r_as (v := .slice none 0 0) rfl) rfl ?_
  refine RO.nil (nx ?_)
  refine ex_seq ?_
  refine ex_region ?_
  refine ro_hy (o_bsv HS (cs := []) sl25 zz3 (vs := []) rfl rfl vc0 rfl rfl (by decide)) rfl ?_
  rintro _ w2 ⟨g1, rfl, hb, HS⟩
  replace HS := HS.lit0 (.int .i64)
  refine ro_lt (r_as (v := (.slice (some ⟨g1, 0, none⟩) 0 0)) rfl) rfl ?_
  refine RO.nil (nx ?_)
  refine ex_seq ?_
  refine ex_seq ?_
  refine ex_region ?_
  refine ro_lt (r_as (v := iv 0) rfl) rfl ?_
  refine RO.nil (nx ?_)
  replace h := bind_some h; obtain ⟨y40, e41, h⟩ := h
  refine ex_lbo (fun (st : (List Int) × Int) s' w' => ∃ v14 : Value, Has s' [(0, p_r_0), (1, iv z), (2, iv v), (6, .slice none 0 0), (7, v14), (8, iv st.2)] ∧ St w (hp w) w' [.ow (.sl 3 (.int .i64)) st.1 [v14]]) e41 ⟨(.slice (some ⟨g1, 0, none⟩) 0 0), ⟨rfl, rfl, rfl, rfl, rfl, rfl, trivial⟩, HS⟩ ?_ ?_
  · rintro ⟨out_12, u_15⟩ c' s' w16 ⟨v14, hs_, HS⟩ h
    rw [has_put hs_]; clear hs_
    try dsimp only at HS
    replace h : F_spec_l20Sources_b1 r_0 v z out_12 u_15 = some c' := h
    unfold F_spec_l20Sources_b1 at h
    refine ex_seq ?_
    refine ex_seq ?_
    refine ex_region ?_
    refine ro_lt (r_mv (v := iv u_15) rfl) rfl ?_
    refine ro_lt (r_mv (v := p_r_0) rfl) rfl ?_
    refine ro_lt (r_nc (l_r_0.sub HS.sub) rfl) rfl ?_
    refine ro_lt (r_fa (l_r_0.sub HS.sub) fd91_1 rfl) rfl ?_
    refine ro_lt (r_fa ((l_r_0.seg 1 2).sub HS.sub) fd27_0 rfl) rfl ?_
    refine ro_lt (r_ld (((l_r_0.seg 1 2).seg 0 1).sub HS.sub) sc24 rfl) rfl ?_
    have b17 := (r_r_01.sub HS.sub).big
    refine ro_lt (r_len (n := 4) (r_r_01.sub HS.sub) sl24 rfl) rfl ?_
    refine ro_lt (r_lss rfl rfl) rfl ?_
    refine RO.nil (nx ?_)
    replace h := ite_some h; rcases h with ⟨c18, h⟩ | ⟨c18, h⟩
    rotate_left
    · refine ex_if_f rfl (decide_eq_false c18) ?_
      refine ex_exit (tq_exit ?_)
      obtain rfl := Option.some.inj h
      exact lq_out ⟨v14, ⟨rfl, rfl, rfl, rfl, rfl, rfl, trivial⟩, HS⟩
    refine ex_if_t rfl (decide_eq_true c18) ?_
    refine ex_skip (nx ?_)
    refine ex_seq ?_
    refine ex_block ?_
    refine ex_seq ?_
    refine ex_region ?_
    refine ro_lt (r_mv (v := p_r_0) rfl) rfl ?_
    refine ro_lt (r_nc (l_r_0.sub HS.sub) rfl) rfl ?_
    refine ro_lt (r_fa (l_r_0.sub HS.sub) fd91_1 rfl) rfl ?_
    refine ro_lt (r_lda ((l_r_0.seg 1 2).sub HS.sub) ag27 rfl rfl) rfl ?_
    refine ro_lt (r_mv (v := iv u_15) rfl) rfl ?_
    refine ro_lt (r_mv (v := iv v) rfl) rfl ?_
    replace h := bind_some h; obtain ⟨y19, e20, h⟩ := h
    refine ro_hy (o_cf (vs := [.agg #[v_r_01, v_r_02], iv u_15, iv v]) HS rfl (c_spec_NextOf (r_r_01.sub HS.sub) (r_r_02.sub HS.sub) e20) cf57 rfl) rfl ?_
    rintro _ w21 ⟨rfl, hb, HS⟩
    refine ro_lt (r_neq rfl rfl) rfl ?_
    refine ro_lt (r_mv (v := .bool ((!(decide (y19 = 0))))) rfl) rfl ?_
    replace h := ite_some h; rcases h with ⟨c22, h⟩ | ⟨c22, h⟩
    · refine ro_off (sb (congrArg (!·) (decide_eq_true c22))) rfl rfl ?_
      refine ro_off (sb (congrArg (!·) (decide_eq_true c22))) rfl rfl ?_
      refine ro_off (sb (congrArg (!·) (decide_eq_true c22))) rfl rfl ?_
      refine ro_off (sb (congrArg (!·) (decide_eq_true c22))) rfl rfl ?_
      refine ro_off (sb (congrArg (!·) (decide_eq_true c22))) rfl rfl ?_
      refine ro_off (sb (congrArg (!·) (decide_eq_true c22))) rfl rfl ?_
      refine ro_off (sb (congrArg (!·) (decide_eq_true c22))) rfl rfl ?_
      refine ro_off (sb (congrArg (!·) (decide_eq_true c22))) rfl rfl ?_
      refine ro_off (sb (congrArg (!·) (decide_eq_true c22))) rfl rfl ?_
      refine ro_off (sb (congrArg (!·) (decide_eq_true c22))) rfl rfl ?_
      refine ro_off (sb (congrArg (!·) (decide_eq_true c22))) rfl rfl ?_
      refine ro_off (sb (congrArg (!·) (decide_eq_true c22))) rfl rfl ?_
      refine ro_off (sb (congrArg (!·) (decide_eq_true c22))) rfl rfl ?_
      refine ro_lt (r_pickf (v := .bool false) (congrArg (!·) (decide_eq_true c22)) rfl rfl) rfl ?_
      refine RO.nil (nx ?_)
      refine ex_if_f rfl (rfl) ?_
      refine ex_skip (blk_nx (nx ?_))
      refine ex_region ?_
      refine ro_lt (r_mv (v := iv u_15) rfl) rfl ?_
      refine ro_lt (r_addw rfl rfl) rfl ?_
      refine ro_lt (r_as (v := iv (wi (u_15 + 1))) rfl) rfl ?_
      refine RO.nil ?_
      obtain rfl := Option.some.inj h
      exact lq_go ⟨v14, ⟨rfl, rfl, rfl, rfl, rfl, rfl, trivial⟩, HS⟩
    refine ro_on (sb (congrArg (!·) (decide_eq_false c22))) ?_
    refine ro_lt (r_mv (v := p_r_0) rfl) rfl ?_
    refine ro_on (sb (congrArg (!·) (decide_eq_false c22))) ?_
    refine ro_lt (r_nc (l_r_0.sub HS.sub) rfl) rfl ?_
    refine ro_on (sb (congrArg (!·) (decide_eq_false c22))) ?_
    refine ro_lt (r_fa (l_r_0.sub HS.sub) fd91_1 rfl) rfl ?_
    refine ro_on (sb (congrArg (!·) (decide_eq_false c22))) ?_
    refine ro_lt (r_fa ((l_r_0.seg 1 2).sub HS.sub) fd27_0 rfl) rfl ?_
    refine ro_on (sb (congrArg (!·) (decide_eq_false c22))) ?_
    refine ro_lt (r_ld (((l_r_0.seg 1 2).seg 0 1).sub HS.sub) sc24 rfl) rfl ?_
    refine ro_on (sb (congrArg (!·) (decide_eq_false c22))) ?_
    refine ro_lt (r_mv (v := iv u_15) rfl) rfl ?_
    replace h := grd_some h; obtain ⟨g23, h⟩ := h
    obtain ⟨_, q24, l25⟩ := r_r_01.idx g23.1 g23.2
    obtain ⟨v26, v28, rfl, r27, r29⟩ := rd_K72 q24
    refine ro_on (sb (congrArg (!·) (decide_eq_false c22))) ?_
    refine ro_lt (r_ia (r_r_01.sub HS.sub) sl24 g23.1 g23.2 rfl rfl) rfl ?_
    refine ro_on (sb (congrArg (!·) (decide_eq_false c22))) ?_
    refine ro_lt (r_fa (l25.sub HS.sub) fd72_1 rfl) rfl ?_
    refine ro_on (sb (congrArg (!·) (decide_eq_false c22))) ?_
    refine ro_lt (r_ld ((l25.seg 1 1).sub HS.sub) sc25 rfl) rfl ?_
    refine ro_on (sb (congrArg (!·) (decide_eq_false c22))) ?_
    refine ro_lt (r_mv (v := iv z) rfl) rfl ?_
    replace h := grd_some h; obtain ⟨g30, h⟩ := h
    refine ro_on (sb (congrArg (!·) (decide_eq_false c22))) ?_
    refine ro_lt (r_ia (r29.sub HS.sub) sl25 g30.1 g30.2 rfl rfl) rfl ?_
    refine ro_on (sb (congrArg (!·) (decide_eq_false c22))) ?_
    refine ro_lt (r_ld ((r29.int g30.1 g30.2).sub HS.sub) sc3 rfl) rfl ?_
    refine ro_on (sb (congrArg (!·) (decide_eq_false c22))) ?_
    refine ro_lt (r_neq rfl rfl) rfl ?_
    refine ro_lt (r_pickt (v := .bool ((!(decide ((((r_0.2.1.1.getD u_15.toNat (([] : List Int), ([] : List Int), 0, 0)).2).1).getD z.toNat 0 = 0))))) (congrArg (!·) (decide_eq_false c22)) rfl rfl) rfl ?_
    refine RO.nil (nx ?_)
    replace h := ite_some h; rcases h with ⟨c31, h⟩ | ⟨c31, h⟩
    · refine ex_if_f rfl (congrArg (!·) (decide_eq_true c31)) ?_
      refine ex_skip (blk_nx (nx ?_))
      refine ex_region ?_
      refine ro_lt (r_mv (v := iv u_15) rfl) rfl ?_
      refine ro_lt (r_addw rfl rfl) rfl ?_
      refine ro_lt (r_as (v := iv (wi (u_15 + 1))) rfl) rfl ?_
      refine RO.nil ?_
      obtain rfl := Option.some.inj h
      exact lq_go ⟨v14, ⟨rfl, rfl, rfl, rfl, rfl, rfl, trivial⟩, HS⟩
    refine ex_if_t rfl (congrArg (!·) (decide_eq_false c31)) ?_
    refine ex_region ?_
    refine ro_lt (r_mv (v := v14) rfl) rfl ?_
    refine ro_lt (r_mv (v := iv u_15) rfl) rfl ?_
    refine ro_hy (o_bsv HS (cs := [iv u_15]) sl25 zz3 (vs := [iv u_15]) rfl rfl (vc rfl vc0) rfl rfl (by decide)) rfl ?_
    rintro _ w33 ⟨g32, rfl, hb, HS⟩
    replace h := grd_some h; obtain ⟨g35, h⟩ := h
    refine ro_hy (o_appf (HS.sel (G := [_, _]) [1] 0 rfl) rfl rfl rfl rfl sl25 zz3 g35) rfl ?_
    rintro v37 w38 ⟨HS, hk⟩
    refine ro_lt (r_as (v := v37) rfl) rfl ?_
    refine RO.nil (blk_nx (nx ?_))
    refine ex_region ?_
    refine ro_lt (r_mv (v := iv u_15) rfl) rfl ?_
    refine ro_lt (r_addw rfl rfl) rfl ?_
    refine ro_lt (r_as (v := iv (wi (u_15 + 1))) rfl) rfl ?_
    refine RO.nil ?_
    obtain rfl := Option.some.inj h
    exact lq_go ⟨v37, ⟨rfl, rfl, rfl, rfl, rfl, rfl, trivial⟩, HS⟩
  rintro s' w42 ⟨v14, hs_, HS⟩
  rw [has_put hs_]; clear hs_
  refine (nx ?_)
  refine ex_seq ?_
  refine ex_region ?_
  refine ro_lt (r_mv (v := v14) rfl) rfl ?_
  refine ro_lt (r_as (v := v14) rfl) rfl ?_
  refine RO.nil (nx ?_)
  obtain rfl := Option.some.inj h
  refine ex_ret ?_
  exact ret1 (.inr rfl) rfl rfl (P1.of HS hs)
theorem c_spec_l20Before {w : World} {H : Hp} {FR : List Ob} {g_r : Nat} {r_vars : Int} {v_r_Nodes : Value} {n_r : Nat} {sh_r : Shp} {r_Nodes : List (List Int × List Int × Int × Int)} {v_r_Next : Value} {r_Next : List Int} {r_changed : Bool} {r_bad : Bool} (HS : St w H w (.bx g_r 91 [iv r_vars, v_r_Nodes, v_r_Next, .bool r_changed, .bool r_bad] :: .pr (NS 72 3 n_r v_r_Nodes sh_r r_Nodes) :: .ow (.sl 3 (.int .i64)) r_Next [v_r_Next] :: FR)) {r : List (List Int × List Int × Int × Int) × List Int × Bool × Bool} (h : F_spec_l20Before r_vars n_r r_Nodes r_Next r_changed r_bad = some r) : Calls Try.prog 79 [.pointer (some ⟨g_r, 0, none⟩)].toArray w (((fun r => PS (.tuple #[]) fun w' => St w H w' (.bx g_r 91 [iv r_vars, v_r_Nodes, v_r_Next, .bool r.2.2.1, .bool r.2.2.2] :: .pr (NS 72 3 n_r v_r_Nodes sh_r r.1) :: .ow (.sl 3 (.int .i64)) r.2.1 [v_r_Next] :: FR)) : (List (List Int × List Int × Int × Int) × List Int × Bool × Bool) → Ending → World → Prop) r) := by
  unfold F_spec_l20Before at h
  refine calls_ex (n := 108) Try.func79 rfl Try.ntmps79 (Nat.le_of_ble_eq_true rfl) ?_
  refine ex_seq ?_
  refine ex_region ?_
  refine ro_lt (r_as (v := iv 0) rfl) rfl ?_
  refine RO.nil (nx ?_)
  replace h := bind_some h; obtain ⟨y72, e73, h⟩ := h
  refine ex_lbo (fun (st : Bool × Bool × (List (List Int × List Int × Int × Int)) × (List Int) × Int) s' w' => Has s' [(0, .pointer (some ⟨g_r, 0, none⟩)), (2, iv st.2.2.2.2)] ∧ St w H w' (.bx g_r 91 [iv r_vars, v_r_Nodes, v_r_Next, .bool st.1, .bool st.2.1] :: .pr (NS 72 3 n_r v_r_Nodes sh_r st.2.2.1) :: .ow (.sl 3 (.int .i64)) st.2.2.2.1 [v_r_Next] :: FR)) e73 ⟨⟨rfl, rfl, trivial⟩, HS⟩ ?_ ?_
  · rintro ⟨changed_13, bad_14, Nodes_15, Next_16, v_17⟩ c' s' w18 ⟨hs_, HS⟩ h
    rw [has_put hs_]; clear hs_
    try dsimp only at HS
    replace h : F_spec_l20Before_b2 n_r r_vars changed_13 bad_14 Nodes_15 Next_16 v_17 = some c' := h
    unfold F_spec_l20Before_b2 at h
    refine ex_seq ?_
    refine ex_seq ?_
    refine ex_region ?_
    refine ro_lt (r_mv (v := iv v_17) rfl) rfl ?_
    refine ro_lt (r_mv (v := .pointer (some ⟨g_r, 0, none⟩)) rfl) rfl ?_
    refine ro_lt (r_nc (HS.boxAt 0 rfl) rfl) rfl ?_
    refine ro_lt (r_fa (HS.boxAt 0 rfl) fd91_1 rfl) rfl ?_
    refine ro_lt (r_fa ((HS.boxAt 0 rfl).seg 1 2) fd27_0 rfl) rfl ?_
    refine ro_lt (r_ld (((HS.boxAt 0 rfl).seg 1 2).seg 0 1) sc24 rfl) rfl ?_
    have b19 := HS.nsBig 1 rfl
    refine ro_lt (r_lenn (m := 4) HS (k := 1) rfl sl24 rfl) rfl ?_
    refine ro_lt (r_lss rfl rfl) rfl ?_
    refine RO.nil (nx ?_)
    replace h := ite_some h; rcases h with ⟨c20, h⟩ | ⟨c20, h⟩
    rotate_left
    · refine ex_if_f rfl (decide_eq_false c20) ?_
      refine ex_exit (tq_exit ?_)
      obtain rfl := Option.some.inj h
      exact lq_out ⟨⟨rfl, rfl, trivial⟩, HS⟩
    refine ex_if_t rfl (decide_eq_true c20) ?_
    refine ex_skip (nx ?_)
    refine ex_seq ?_
    refine ex_block ?_
    refine ex_seq ?_
    refine ex_region ?_
    refine ro_lt (r_as (v := iv 0) rfl) rfl ?_
    refine RO.nil (nx ?_)
    replace h := bind_some h; obtain ⟨y68, e69, h⟩ := h
    refine ex_lbo (fun (st : Bool × Bool × (List (List Int × List Int × Int × Int)) × (List Int) × Int) s' w' => Has s' [(0, .pointer (some ⟨g_r, 0, none⟩)), (2, iv v_17), (3, iv st.2.2.2.2)] ∧ St w H w' (.bx g_r 91 [iv r_vars, v_r_Nodes, v_r_Next, .bool st.1, .bool st.2.1] :: .pr (NS 72 3 n_r v_r_Nodes sh_r st.2.2.1) :: .ow (.sl 3 (.int .i64)) st.2.2.2.1 [v_r_Next] :: FR)) e69 ⟨⟨rfl, rfl, rfl, trivial⟩, HS⟩ ?_ ?_
    · rintro ⟨changed_23, bad_24, Nodes_25, Next_26, z_27⟩ c' s' w28 ⟨hs_, HS⟩ h
      rw [has_put hs_]; clear hs_
      try dsimp only at HS
      replace h : F_spec_l20Before_b1 r_vars v_17 n_r changed_23 bad_24 Nodes_25 Next_26 z_27 = some c' := h
      unfold F_spec_l20Before_b1 at h
      refine ex_seq ?_
      refine ex_seq ?_
      refine ex_region ?_
      refine ro_lt (r_mv (v := iv z_27) rfl) rfl ?_
      refine ro_lt (r_mv (v := .pointer (some ⟨g_r, 0, none⟩)) rfl) rfl ?_
      refine ro_lt (r_nc (HS.boxAt 0 rfl) rfl) rfl ?_
      refine ro_lt (r_fa (HS.boxAt 0 rfl) fd91_0 rfl) rfl ?_
      refine ro_lt (r_ld ((HS.boxAt 0 rfl).seg 0 1) sc3 rfl) rfl ?_
      refine ro_lt (r_lss rfl rfl) rfl ?_
      refine ro_lt (r_mv (v := .bool ((decide (z_27 < r_vars)))) rfl) rfl ?_
      replace h := ite_some h; rcases h with ⟨c29, h⟩ | ⟨c29, h⟩
      rotate_left
      · refine ro_off (sb (decide_eq_false c29)) rfl rfl ?_
        refine ro_off (sb (decide_eq_false c29)) rfl rfl ?_
        refine ro_off (sb (decide_eq_false c29)) rfl rfl ?_
        refine ro_off (sb (decide_eq_false c29)) rfl rfl ?_
        refine ro_off (sb (decide_eq_false c29)) rfl rfl ?_
        refine ro_lt (r_pickf (v := .bool false) (decide_eq_false c29) rfl rfl) rfl ?_
        refine RO.nil (nx ?_)
        refine ex_if_f rfl (rfl) ?_
        refine ex_exit (tq_exit ?_)
        obtain rfl := Option.some.inj h
        exact lq_out ⟨⟨rfl, rfl, rfl, trivial⟩, HS⟩
      refine ro_on (sb (decide_eq_true c29)) ?_
      refine ro_lt (r_mv (v := .pointer (some ⟨g_r, 0, none⟩)) rfl) rfl ?_
      refine ro_on (sb (decide_eq_true c29)) ?_
      refine ro_lt (r_nc (HS.boxAt 0 rfl) rfl) rfl ?_
      refine ro_on (sb (decide_eq_true c29)) ?_
      refine ro_lt (r_fa (HS.boxAt 0 rfl) fd91_3 rfl) rfl ?_
      refine ro_on (sb (decide_eq_true c29)) ?_
      refine ro_lt (r_ld ((HS.boxAt 0 rfl).seg 4 1) sc4 rfl) rfl ?_
      refine ro_on (sb (decide_eq_true c29)) ?_
      refine ro_lt (r_not rfl) rfl ?_
      refine ro_lt (r_pickt (v := .bool ((!bad_24))) (decide_eq_true c29) rfl rfl) rfl ?_
      refine RO.nil (nx ?_)
      replace h := ite_some h; rcases h with ⟨c30, h⟩ | ⟨c30, h⟩
      · refine ex_if_f rfl (congrArg (!·) (c30)) ?_
        refine ex_exit (tq_exit ?_)
        obtain rfl := Option.some.inj h
        exact lq_out ⟨⟨rfl, rfl, rfl, trivial⟩, HS⟩
      refine ex_if_t rfl (congrArg (!·) (bf c30)) ?_
      refine ex_skip (nx ?_)
      refine ex_seq ?_
      refine ex_block ?_
      refine ex_seq ?_
      refine ex_region ?_
      refine ro_lt (r_mv (v := .pointer (some ⟨g_r, 0, none⟩)) rfl) rfl ?_
      refine ro_lt (r_nc (HS.boxAt 0 rfl) rfl) rfl ?_
      refine ro_lt (r_fa (HS.boxAt 0 rfl) fd91_1 rfl) rfl ?_
      refine ro_lt (r_fa ((HS.boxAt 0 rfl).seg 1 2) fd27_0 rfl) rfl ?_
      refine ro_lt (r_ld (((HS.boxAt 0 rfl).seg 1 2).seg 0 1) sc24 rfl) rfl ?_
      refine ro_lt (r_mv (v := iv v_17) rfl) rfl ?_
      replace h := grd_some h; obtain ⟨g31, h⟩ := h
      refine ro_lt (r_ian HS (k := 1) rfl sl24 g31.1 g31.2 rfl rfl) rfl ?_
      refine ro_lt (r_lda (cs := [(sh_r v_17.toNat).1, (sh_r v_17.toNat).2, iv ((Nodes_25.getD v_17.toNat dN).2.2.1), iv ((Nodes_25.getD v_17.toNat dN).2.2.2)]) (HS.nsAt 1 rfl (i := v_17.toNat) (by omega)) ag72 rfl rfl) rfl ?_
      refine ro_hy (o_alloc HS (cs := [.slice none 0 0, .slice none 0 0, iv 0, iv 0]) ze72 rfl) rfl ?_
      rintro _ w33 ⟨g32, rfl, hb, HS⟩
      refine ro_hy (o_str (off := 0) (vs := [(sh_r v_17.toNat).1, (sh_r v_17.toNat).2, iv ((Nodes_25.getD v_17.toNat dN).2.2.1), iv ((Nodes_25.getD v_17.toNat dN).2.2.2)]) (l' := [(sh_r v_17.toNat).1, (sh_r v_17.toNat).2, iv ((Nodes_25.getD v_17.toNat dN).2.2.1), iv ((Nodes_25.getD v_17.toNat dN).2.2.2)]) HS rfl rfl rfl st72 rfl rfl (pl (HS.nsR1 2 rfl (i := v_17.toNat) (by omega)).pl (pl (HS.nsR2 2 rfl (i := v_17.toNat) (by omega)).pl (pl rfl (pl rfl pl0)))) rfl) rfl ?_
      rintro _ w35 ⟨rfl, hk, HS⟩
      refine RO.nil (nx ?_)
      refine ex_seq ?_
      refine ex_seq ?_
      refine ex_region ?_
      refine ro_lt (r_fa (HS.boxAt 0 rfl) fd72_0 rfl) rfl ?_
      refine ro_lt (r_ld ((HS.boxAt 0 rfl).seg 0 1) sc25 rfl) rfl ?_
      refine ro_lt (r_mv (v := iv z_27) rfl) rfl ?_
      replace h := grd_some h; obtain ⟨g37, h⟩ := h
      refine ro_lt (r_ia (HS.nsR1 2 rfl (i := v_17.toNat) (by omega)) sl25 g37.1 g37.2 rfl rfl) rfl ?_
      refine ro_lt (r_ld ((HS.nsR1 2 rfl (i := v_17.toNat) (by omega)).int g37.1 g37.2) sc3 rfl) rfl ?_
      refine ro_lt (r_neq rfl rfl) rfl ?_
      refine ro_lt (r_mv (v := .bool ((!(decide (((Nodes_25.getD v_17.toNat dN).1).getD z_27.toNat 0 = 0))))) rfl) rfl ?_
      replace h := ite_some h; rcases h with ⟨c38, h⟩ | ⟨c38, h⟩
      rotate_left
      · refine ro_off (sb (congrArg (!·) (decide_eq_false c38))) rfl rfl ?_
        refine ro_off (sb (congrArg (!·) (decide_eq_false c38))) rfl rfl ?_
        refine ro_off (sb (congrArg (!·) (decide_eq_false c38))) rfl rfl ?_
        refine ro_off (sb (congrArg (!·) (decide_eq_false c38))) rfl rfl ?_
        refine ro_off (sb (congrArg (!·) (decide_eq_false c38))) rfl rfl ?_
        refine ro_off (sb (congrArg (!·) (decide_eq_false c38))) rfl rfl ?_
        refine ro_lt (r_pickt (v := .bool true) (congrArg (!·) (decide_eq_false c38)) rfl rfl) rfl ?_
        refine RO.nil (nx ?_)
        refine ex_if_t rfl (rfl) ?_
        refine ex_exit (tq_exit (blk_exit (nx ?_)))
        refine ex_region ?_
        refine ro_lt (r_mv (v := iv z_27) rfl) rfl ?_
        refine ro_lt (r_addw rfl rfl) rfl ?_
        refine ro_lt (r_as (v := iv (wi (z_27 + 1))) rfl) rfl ?_
        refine RO.nil ?_
        obtain rfl := Option.some.inj h
        exact lq_go ⟨⟨rfl, rfl, rfl, trivial⟩, (HS.sel (G := _ :: _ :: _ :: FR) [1, 1, 1] 1 rfl)⟩
      refine ro_on (sb (congrArg (!·) (decide_eq_true c38))) ?_
      refine ro_lt (r_fa (HS.boxAt 0 rfl) fd72_1 rfl) rfl ?_
      refine ro_on (sb (congrArg (!·) (decide_eq_true c38))) ?_
      refine ro_lt (r_ld ((HS.boxAt 0 rfl).seg 1 1) sc25 rfl) rfl ?_
      refine ro_on (sb (congrArg (!·) (decide_eq_true c38))) ?_
      refine ro_lt (r_mv (v := iv z_27) rfl) rfl ?_
      replace h := grd_some h; obtain ⟨g39, h⟩ := h
      refine ro_on (sb (congrArg (!·) (decide_eq_true c38))) ?_
      refine ro_lt (r_ia (HS.nsR2 2 rfl (i := v_17.toNat) (by omega)) sl25 g39.1 g39.2 rfl rfl) rfl ?_
      refine ro_on (sb (congrArg (!·) (decide_eq_true c38))) ?_
      refine ro_lt (r_ld ((HS.nsR2 2 rfl (i := v_17.toNat) (by omega)).int g39.1 g39.2) sc3 rfl) rfl ?_
      refine ro_on (sb (congrArg (!·) (decide_eq_true c38))) ?_
      refine ro_lt (r_eql rfl rfl) rfl ?_
      refine ro_lt (r_pickf (v := .bool ((decide (((Nodes_25.getD v_17.toNat dN).2.1).getD z_27.toNat 0 = 0)))) (congrArg (!·) (decide_eq_true c38)) rfl rfl) rfl ?_
      refine RO.nil (nx ?_)
      replace h := ite_some h; rcases h with ⟨c40, h⟩ | ⟨c40, h⟩
      · refine ex_if_t rfl (decide_eq_true c40) ?_
        refine ex_exit (tq_exit (blk_exit (nx ?_)))
        refine ex_region ?_
        refine ro_lt (r_mv (v := iv z_27) rfl) rfl ?_
        refine ro_lt (r_addw rfl rfl) rfl ?_
        refine ro_lt (r_as (v := iv (wi (z_27 + 1))) rfl) rfl ?_
        refine RO.nil ?_
        obtain rfl := Option.some.inj h
        exact lq_go ⟨⟨rfl, rfl, rfl, trivial⟩, (HS.sel (G := _ :: _ :: _ :: FR) [1, 1, 1] 1 rfl)⟩
      refine ex_if_f rfl (decide_eq_false c40) ?_
      refine ex_skip (nx ?_)
      refine ex_seq ?_
      refine ex_region ?_
      refine ro_lt (r_mv (v := .pointer (some ⟨g_r, 0, none⟩)) rfl) rfl ?_
      refine ro_lt (r_mv (v := iv z_27) rfl) rfl ?_
      refine ro_lt (r_mv (v := iv v_17) rfl) rfl ?_
      replace h := bind_some h; obtain ⟨y41, e42, h⟩ := h
      refine ro_hy (o_c1 (vs := [.pointer (some ⟨g_r, 0, none⟩), iv z_27, iv v_17]) HS (c_spec_l20Sources (HS.boxAt 1 rfl) (HS.nsRd 2 rfl) (HS.rd 3 rfl) e42) cf128 rfl) rfl ?_
      rintro _ w43 ⟨cs44, rfl, hb, HS⟩
      obtain ⟨v46, rfl, -⟩ := (HS.rd 0 rfl).one
      refine ro_lt (r_as (v := v46) rfl) rfl ?_
      refine RO.nil (nx ?_)
      refine ex_block ?_
      refine ex_seq ?_
      refine ex_region ?_
      refine ro_lt (r_mv (v := v46) rfl) rfl ?_
      have b47 := (HS.rd 0 rfl).big
      refine ro_lt (r_len (n := 1) (HS.rd 0 rfl) sl25 rfl) rfl ?_
      refine ro_lt (r_eql rfl rfl) rfl ?_
      refine ro_lt (r_as (v := .bool ((decide ((y41.length : Int) = 0)))) rfl) rfl ?_
      refine RO.nil (nx ?_)
      replace h := ite_some h; rcases h with ⟨c48, h⟩ | ⟨c48, h⟩
      · refine ex_if_t rfl (decide_eq_true c48) ?_
        refine ex_region ?_
        refine ro_lt (r_mv (v := .pointer (some ⟨g_r, 0, none⟩)) rfl) rfl ?_
        refine ro_lt (r_mv (v := iv z_27) rfl) rfl ?_
        refine ro_lt (r_mv (v := iv v_17) rfl) rfl ?_
        replace h := bind_some h; obtain ⟨y49, e50, h⟩ := h
        refine ro_hy (o_cs (vs := [.pointer (some ⟨g_r, 0, none⟩), iv z_27, iv v_17, iv 0]) (c_spec_l20Reach (HS.sel (G := _ :: _ :: _ :: _ :: _ :: FR) [2, 2, 2] 0 rfl).self e50) cf126 rfl) rfl ?_
        rintro _ w51 ⟨rfl, HS2⟩
        replace HS := (HS.sel (G := _ :: _ :: _ :: _ :: _ :: FR) [2, 2, 2] 0 rfl).from HS2
        refine RO.nil (blk_nx (blk_nx (nx ?_)))
        refine ex_region ?_
        refine ro_lt (r_mv (v := iv z_27) rfl) rfl ?_
        refine ro_lt (r_addw rfl rfl) rfl ?_
        refine ro_lt (r_as (v := iv (wi (z_27 + 1))) rfl) rfl ?_
        refine RO.nil ?_
        obtain rfl := Option.some.inj h
        exact lq_go ⟨⟨rfl, rfl, rfl, trivial⟩, (HS.sel (G := _ :: _ :: _ :: FR) [0, 0, 0] 2 rfl)⟩
      refine ex_if_f rfl (decide_eq_false c48) ?_
      refine ex_seq ?_
      refine ex_dr (Mm H [11, 14, 19, 24, 27]) (Phi g_r (fun (a : Bool × Bool) => [iv r_vars, v_r_Nodes, v_r_Next, .bool a.1, .bool a.2]) v_r_Nodes n_r sh_r) [0, 1, 3, 7, 15, 31, 63, 127, 255, 15, 527, 1551, 4095, 8191, 16383, 32767, 65535, 131071, 262143, 524287, 1048575, 2097151, 4194303, 8388607, 16777215, 8388607, 67108863, 134217727, 268435455, 536870911, 1073741823] [] (.op 0 (.op 1 (.op 2 (.op 3 (.op 4 (.op 5 (.op 6 (.op 7 (.op 8 (.op 9 (.op 10 (.op 11 (.op 12 (.op 13 (.op 14 (.op 15 (.op 16 (.op 17 (.op 18 (.op 19 (.op 20 (.op 21 (.op 22 (.op 23 (.op 24 (.op 25 (.op 26 (.op 27 (.op 28 (.op 29 (.op 30 .nil))))))))))))))))))))))))))))))) mix (by kernel_rfl) (by kernel_rfl) ?_
      intro w53 hw hb; have HS := HS.ext hb; clear hw hb
      refine RT.lt rfl rfl rfl rfl (fun w' k => r_mv (v := v46) rfl) ?_
      refine RT.lt rfl rfl rfl rfl (fun w' k => r_len (n := 1) (HS.rd 0 rfl) sl25 rfl) ?_
      refine RT.lt rfl rfl rfl rfl (fun w' k => r_eql rfl rfl) ?_
      refine RT.lt rfl rfl rfl rfl (fun w' k => r_mv (v := .bool ((decide ((y41.length : Int) = 1)))) rfl) ?_
      replace h := ite_some h; rcases h with ⟨c54, h⟩ | ⟨c54, h⟩
      rotate_left
      · refine RT.sk rfl rfl rfl (want_off rfl (sb (decide_eq_false c54)) rfl) ?_
        refine RT.sk rfl rfl rfl (want_off rfl (sb (decide_eq_false c54)) rfl) ?_
        refine RT.sk rfl rfl rfl (want_off rfl (sb (decide_eq_false c54)) rfl) ?_
        refine RT.sk rfl rfl rfl (want_off rfl (sb (decide_eq_false c54)) rfl) ?_
        refine RT.sk rfl rfl rfl (want_off rfl (sb (decide_eq_false c54)) rfl) ?_
        refine RT.sk rfl rfl rfl (want_off rfl (sb (decide_eq_false c54)) rfl) ?_
        refine RT.sk rfl rfl rfl (want_off rfl (sb (decide_eq_false c54)) rfl) ?_
        refine RT.sk rfl rfl rfl (want_off rfl (sb (decide_eq_false c54)) rfl) ?_
        refine RT.sk rfl rfl rfl (want_off rfl (sb (decide_eq_false c54)) rfl) ?_
        refine RT.sk rfl rfl rfl (want_off rfl (sb (decide_eq_false c54)) rfl) ?_
        refine RT.sk rfl rfl rfl (want_off rfl (sb (decide_eq_false c54)) rfl) ?_
        refine RT.sk rfl rfl rfl (want_off rfl (sb (decide_eq_false c54)) rfl) ?_
        refine RT.lt rfl rfl rfl rfl (fun w' k => r_pickf (v := .bool false) (decide_eq_false c54) rfl rfl) ?_
        refine RT.lt rfl rfl rfl rfl (fun w' k => r_mv (v := .bool false) rfl) ?_
        refine RT.sk rfl rfl rfl (want_off rfl (sb (rfl)) rfl) ?_
        refine RT.sk rfl rfl rfl (want_off rfl (sb (rfl)) rfl) ?_
        refine RT.sk rfl rfl rfl (want_off rfl (sb (rfl)) rfl) ?_
        refine RT.lt rfl rfl rfl rfl (fun w' k => r_pickf (v := .bool false) (rfl) rfl rfl) ?_
        refine RT.lt rfl rfl rfl rfl (fun w' k => r_mv (v := .bool false) rfl) ?_
        refine RT.sk rfl rfl rfl (want_off rfl (sb (rfl)) rfl) ?_
        refine RT.sk rfl rfl rfl (want_off rfl (sb (rfl)) rfl) ?_
        refine RT.sk rfl rfl rfl (want_off rfl (sb (rfl)) rfl) ?_
        refine RT.sk rfl rfl rfl (want_off rfl (sb (rfl)) rfl) ?_
        refine RT.sk rfl rfl rfl (want_off rfl (sb (rfl)) rfl) ?_
        refine RT.sk rfl rfl rfl (want_off rfl (sb (rfl)) rfl) ?_
        refine RT.lt rfl rfl rfl rfl (fun w' k => r_pickf (v := .bool false) (rfl) rfl rfl) ?_
        refine RT.lt rfl rfl rfl rfl (fun w' k => r_as (v := .bool false) rfl) ?_
        refine RT.nil (nx ?_)
        refine ex_if_f rfl (rfl) ?_
        refine ex_skip (blk_nx (blk_nx (nx ?_)))
        refine ex_region ?_
        refine ro_lt (r_mv (v := iv z_27) rfl) rfl ?_
        refine ro_lt (r_addw rfl rfl) rfl ?_
        refine ro_lt (r_as (v := iv (wi (z_27 + 1))) rfl) rfl ?_
        refine RO.nil ?_
        obtain rfl := Option.some.inj h
        exact lq_go ⟨⟨rfl, rfl, rfl, trivial⟩, (HS.sel (G := _ :: _ :: _ :: FR) [2, 2, 2] 2 rfl)⟩
      refine RT.lt rfl rfl rfl (want_on rfl (sb (decide_eq_true c54))) (fun w' k => r_mv (v := .pointer (some ⟨g_r, 0, none⟩)) rfl) ?_
      refine RT.lt rfl rfl rfl (want_on rfl (sb (decide_eq_true c54))) (fun w' k => r_nc (HS.boxAt 2 rfl) rfl) ?_
      refine RT.lt rfl rfl rfl (want_on rfl (sb (decide_eq_true c54))) (fun w' k => r_fa (HS.boxAt 2 rfl) fd91_1 rfl) ?_
      refine RT.lt rfl rfl rfl (want_on rfl (sb (decide_eq_true c54))) (fun w' k => r_fa ((HS.boxAt 2 rfl).seg 1 2) fd27_0 rfl) ?_
      refine RT.lt rfl rfl rfl (want_on rfl (sb (decide_eq_true c54))) (fun w' k => r_ld (exGet (exSeg (exSeg (k.phi (Phi.of (f := (fun (a : Bool × Bool) => [iv r_vars, v_r_Nodes, v_r_Next, .bool a.1, .bool a.2])) (changed_23, bad_24) HS 2 3 rfl rfl)).1 1 2) 0 1) fun _ => rfl) sc24 rfl) ?_
      refine RT.lt rfl rfl rfl (want_on rfl (sb (decide_eq_true c54))) (fun w' k => r_mv (v := v46) rfl) ?_
      replace h := grd_some h; obtain ⟨g55, h⟩ := h
      refine RT.lt rfl rfl rfl (want_on rfl (sb (decide_eq_true c54))) (fun w' k => r_ia (HS.rd 0 rfl) sl25 (by omega) g55 rfl rfl) ?_
      refine RT.lt rfl rfl rfl (want_on rfl (sb (decide_eq_true c54))) (fun w' k => r_ld (((HS.rd 0 rfl).int (by omega) g55).k0 (Sub.refl _) (k.kp.none rfl)) sc3 rfl) ?_
      replace h := grd_some h; obtain ⟨g56, h⟩ := h
      refine RT.lt rfl rfl rfl (want_on rfl (sb (decide_eq_true c54))) (fun w' k => r_ian HS (k := 3) rfl sl24 g56.1 g56.2 rfl rfl) ?_
      refine RT.lt rfl rfl rfl (want_on rfl (sb (decide_eq_true c54))) (fun w' k => r_fa (HS.nsAt 3 rfl (i := (y41.getD (0 : Int).toNat 0).toNat) (by omega)) fd72_3 rfl) ?_
      refine RT.lt rfl rfl rfl (want_on rfl (sb (decide_eq_true c54))) (fun w' k => r_ld (v := iv ((Nodes_25.getD (y41.getD (0 : Int).toNat 0).toNat dN).2.2.2)) (((HS.nsAt 3 rfl (i := (y41.getD (0 : Int).toNat 0).toNat) (by omega)).seg 3 1).k0 (Sub.refl _) (k.kp.none rfl)) sc3 rfl) ?_
      refine RT.lt rfl rfl rfl (want_on rfl (sb (decide_eq_true c54))) (fun w' k => r_eql rfl rfl) ?_
      refine RT.lt rfl rfl rfl rfl (fun w' k => r_pickt (v := .bool ((decide ((Nodes_25.getD (y41.getD (0 : Int).toNat 0).toNat dN).2.2.2 = 0)))) (decide_eq_true c54) rfl rfl) ?_
      refine RT.lt rfl rfl rfl rfl (fun w' k => r_mv (v := .bool ((decide ((Nodes_25.getD (y41.getD (0 : Int).toNat 0).toNat dN).2.2.2 = 0)))) rfl) ?_
      replace h := ite_some h; rcases h with ⟨c57, h⟩ | ⟨c57, h⟩
      rotate_left
      · refine RT.sk rfl rfl rfl (want_off rfl (sb (decide_eq_false c57)) rfl) ?_
        refine RT.sk rfl rfl rfl (want_off rfl (sb (decide_eq_false c57)) rfl) ?_
        refine RT.sk rfl rfl rfl (want_off rfl (sb (decide_eq_false c57)) rfl) ?_
        refine RT.lt rfl rfl rfl rfl (fun w' k => r_pickf (v := .bool false) (decide_eq_false c57) rfl rfl) ?_
        refine RT.lt rfl rfl rfl rfl (fun w' k => r_mv (v := .bool false) rfl) ?_
        refine RT.sk rfl rfl rfl (want_off rfl (sb (rfl)) rfl) ?_
        refine RT.sk rfl rfl rfl (want_off rfl (sb (rfl)) rfl) ?_
        refine RT.sk rfl rfl rfl (want_off rfl (sb (rfl)) rfl) ?_
        refine RT.sk rfl rfl rfl (want_off rfl (sb (rfl)) rfl) ?_
        refine RT.sk rfl rfl rfl (want_off rfl (sb (rfl)) rfl) ?_
        refine RT.sk rfl rfl rfl (want_off rfl (sb (rfl)) rfl) ?_
        refine RT.lt rfl rfl rfl rfl (fun w' k => r_pickf (v := .bool false) (rfl) rfl rfl) ?_
        refine RT.lt rfl rfl rfl rfl (fun w' k => r_as (v := .bool false) rfl) ?_
        refine RT.nil (nx ?_)
        refine ex_if_f rfl (rfl) ?_
        refine ex_skip (blk_nx (blk_nx (nx ?_)))
        refine ex_region ?_
        refine ro_lt (r_mv (v := iv z_27) rfl) rfl ?_
        refine ro_lt (r_addw rfl rfl) rfl ?_
        refine ro_lt (r_as (v := iv (wi (z_27 + 1))) rfl) rfl ?_
        refine RO.nil ?_
        obtain rfl := Option.some.inj h
        exact lq_go ⟨⟨rfl, rfl, rfl, trivial⟩, (HS.sel (G := _ :: _ :: _ :: FR) [2, 2, 2] 2 rfl)⟩
      refine RT.lt rfl rfl rfl (want_on rfl (sb (decide_eq_true c57))) (fun w' k => r_fa (HS.boxAt 1 rfl) fd72_3 rfl) ?_
      refine RT.lt rfl rfl rfl (want_on rfl (sb (decide_eq_true c57))) (fun w' k => r_ld (((HS.boxAt 1 rfl).seg 3 1).k0 (Sub.refl _) (k.kp.none rfl)) sc3 rfl) ?_
      refine RT.lt rfl rfl rfl (want_on rfl (sb (decide_eq_true c57))) (fun w' k => r_eql rfl rfl) ?_
      refine RT.lt rfl rfl rfl rfl (fun w' k => r_pickt (v := .bool ((decide ((Nodes_25.getD v_17.toNat dN).2.2.2 = 0)))) (decide_eq_true c57) rfl rfl) ?_
      refine RT.lt rfl rfl rfl rfl (fun w' k => r_mv (v := .bool ((decide ((Nodes_25.getD v_17.toNat dN).2.2.2 = 0)))) rfl) ?_
      replace h := ite_some h; rcases h with ⟨c58, h⟩ | ⟨c58, h⟩
      rotate_left
      · refine RT.sk rfl rfl rfl (want_off rfl (sb (decide_eq_false c58)) rfl) ?_
        refine RT.sk rfl rfl rfl (want_off rfl (sb (decide_eq_false c58)) rfl) ?_
        refine RT.sk rfl rfl rfl (want_off rfl (sb (decide_eq_false c58)) rfl) ?_
        refine RT.sk rfl rfl rfl (want_off rfl (sb (decide_eq_false c58)) rfl) ?_
        refine RT.sk rfl rfl rfl (want_off rfl (sb (decide_eq_false c58)) rfl) ?_
        refine RT.sk rfl rfl rfl (want_off rfl (sb (decide_eq_false c58)) rfl) ?_
        refine RT.lt rfl rfl rfl rfl (fun w' k => r_pickf (v := .bool false) (decide_eq_false c58) rfl rfl) ?_
        refine RT.lt rfl rfl rfl rfl (fun w' k => r_as (v := .bool false) rfl) ?_
        refine RT.nil (nx ?_)
        refine ex_if_f rfl (rfl) ?_
        refine ex_skip (blk_nx (blk_nx (nx ?_)))
        refine ex_region ?_
        refine ro_lt (r_mv (v := iv z_27) rfl) rfl ?_
        refine ro_lt (r_addw rfl rfl) rfl ?_
        refine ro_lt (r_as (v := iv (wi (z_27 + 1))) rfl) rfl ?_
        refine RO.nil ?_
        obtain rfl := Option.some.inj h
        exact lq_go ⟨⟨rfl, rfl, rfl, trivial⟩, (HS.sel (G := _ :: _ :: _ :: FR) [2, 2, 2] 2 rfl)⟩
      refine RT.lt rfl rfl rfl (want_on rfl (sb (decide_eq_true c58))) (fun w' k => r_fa (HS.boxAt 1 rfl) fd72_1 rfl) ?_
      refine RT.lt rfl rfl rfl (want_on rfl (sb (decide_eq_true c58))) (fun w' k => r_ld (((HS.boxAt 1 rfl).seg 1 1).k0 (Sub.refl _) (k.kp.none rfl)) sc25 rfl) ?_
      refine RT.lt rfl rfl rfl (want_on rfl (sb (decide_eq_true c58))) (fun w' k => r_mv (v := iv z_27) rfl) ?_
      refine RT.lt rfl rfl rfl (want_on rfl (sb (decide_eq_true c58))) (fun w' k => r_ia (HS.nsR2 3 rfl (i := v_17.toNat) (by omega)) sl25 g39.1 g39.2 rfl rfl) ?_
      refine RT.lt rfl rfl rfl (want_on rfl (sb (decide_eq_true c58))) (fun w' k => r_ld (((HS.nsR2 3 rfl (i := v_17.toNat) (by omega)).int g39.1 g39.2).k0 (Sub.refl _) (k.kp.none rfl)) sc3 rfl) ?_
      refine RT.lt rfl rfl rfl (want_on rfl (sb (decide_eq_true c58))) (fun w' k => r_eql rfl rfl) ?_
      refine RT.lt rfl rfl rfl rfl (fun w' k => r_pickt (v := .bool ((decide (((Nodes_25.getD v_17.toNat dN).2.1).getD z_27.toNat 0 = 2)))) (decide_eq_true c58) rfl rfl) ?_
      refine RT.lt rfl rfl rfl rfl (fun w' k => r_as (v := .bool ((decide (((Nodes_25.getD v_17.toNat dN).2.1).getD z_27.toNat 0 = 2)))) rfl) ?_
      refine RT.nil (nx ?_)
      replace h := ite_some h; rcases h with ⟨c59, h⟩ | ⟨c59, h⟩
      rotate_left
      · refine ex_if_f rfl (decide_eq_false c59) ?_
        refine ex_skip (blk_nx (blk_nx (nx ?_)))
        refine ex_region ?_
        refine ro_lt (r_mv (v := iv z_27) rfl) rfl ?_
        refine ro_lt (r_addw rfl rfl) rfl ?_
        refine ro_lt (r_as (v := iv (wi (z_27 + 1))) rfl) rfl ?_
        refine RO.nil ?_
        obtain rfl := Option.some.inj h
        exact lq_go ⟨⟨rfl, rfl, rfl, trivial⟩, (HS.sel (G := _ :: _ :: _ :: FR) [2, 2, 2] 2 rfl)⟩
      refine ex_if_t rfl (decide_eq_true c59) ?_
      refine ex_seq ?_
      refine ex_region ?_
      refine ro_lt (r_mv (v := .pointer (some ⟨g_r, 0, none⟩)) rfl) rfl ?_
      refine ro_lt (r_mv (v := v46) rfl) rfl ?_
      refine ro_lt (r_ia (HS.rd 0 rfl) sl25 (by omega) g55 rfl rfl) rfl ?_
      refine ro_lt (r_ld ((HS.rd 0 rfl).int (by omega) g55) sc3 rfl) rfl ?_
      refine ro_lt (r_mv (v := iv v_17) rfl) rfl ?_
      replace h := bind_some h; obtain ⟨y60, e61, h⟩ := h
      refine ro_hy (o_cs (vs := [.pointer (some ⟨g_r, 0, none⟩), iv (y41.getD (0 : Int).toNat 0), iv v_17, iv 2]) (c_spec_l20Next (HS.sel (G := _ :: _ :: _ :: _ :: _ :: FR) [2, 2, 2] 0 rfl).self e61) cf127 rfl) rfl ?_
      rintro _ w62 ⟨rfl, HS2⟩
      replace HS := (HS.sel (G := _ :: _ :: _ :: _ :: _ :: FR) [2, 2, 2] 0 rfl).from HS2
      refine RO.nil (nx ?_)
      refine ex_region ?_
      refine ro_lt (r_mv (v := .pointer (some ⟨g_r, 0, none⟩)) rfl) rfl ?_
      refine ro_lt (r_mv (v := iv z_27) rfl) rfl ?_
      refine ro_lt (r_mv (v := v46) rfl) rfl ?_
      refine ro_lt (r_ia (HS.rd 3 rfl) sl25 (by omega) g55 rfl rfl) rfl ?_
      refine ro_lt (r_ld ((HS.rd 3 rfl).int (by omega) g55) sc3 rfl) rfl ?_
      replace h := bind_some h; obtain ⟨y64, e65, h⟩ := h
      refine ro_hy (o_cs (vs := [.pointer (some ⟨g_r, 0, none⟩), iv z_27, iv (y41.getD (0 : Int).toNat 0), iv 2]) (c_spec_l20Reach HS.self e65) cf126 rfl) rfl ?_
      rintro _ w66 ⟨rfl, HS2⟩
      replace HS := HS.from HS2
      refine RO.nil (blk_nx (blk_nx (nx ?_)))
      refine ex_region ?_
      refine ro_lt (r_mv (v := iv z_27) rfl) rfl ?_
      refine ro_lt (r_addw rfl rfl) rfl ?_
      refine ro_lt (r_as (v := iv (wi (z_27 + 1))) rfl) rfl ?_
      refine RO.nil ?_
      obtain rfl := Option.some.inj h
      exact lq_go ⟨⟨rfl, rfl, rfl, trivial⟩, (HS.sel (G := _ :: _ :: _ :: FR) [0, 0, 0] 2 rfl)⟩
    rintro s' w70 ⟨hs_, HS⟩
    rw [has_put hs_]; clear hs_
    refine (blk_nx (nx ?_))
    refine ex_region ?_
    refine ro_lt (r_mv (v := iv v_17) rfl) rfl ?_
    refine ro_lt (r_addw rfl rfl) rfl ?_
    refine ro_lt (r_as (v := iv (wi (v_17 + 1))) rfl) rfl ?_
    refine RO.nil ?_
    obtain rfl := Option.some.inj h
    exact lq_go ⟨⟨rfl, rfl, trivial⟩, HS⟩
  rintro s' w74 ⟨hs_, HS⟩
  rw [has_put hs_]; clear hs_
  obtain rfl := Option.some.inj h
  exact ret0 (.inl rfl) rfl ⟨rfl, HS⟩
theorem c_spec_l1Bit {w : World} {on : Bool} {r : Int} (h : F_spec_l1Bit on = some r) : Calls Try.prog 130 [.bool on].toArray w (P1 (.int .i64) w r) := by
  unfold F_spec_l1Bit at h
  have HS := St.init w
  have hs := Sub.refl (hp w)
  refine calls_ex (n := 4) Try.func130 rfl Try.ntmps130 (Nat.le_of_ble_eq_true rfl) ?_
  refine ex_seq ?_
  refine ex_region ?_
  refine ro_lt (r_as (v := iv 0) rfl) rfl ?_
  refine RO.nil (nx ?_)
  refine ex_seq ?_
  refine ex_seq ?_
  refine ex_region ?_
  refine ro_lt (r_mv (v := .bool on) rfl) rfl ?_
  refine RO.nil (nx ?_)
  replace h := ite_some h; rcases h with ⟨c1, h⟩ | ⟨c1, h⟩
  · refine ex_if_t rfl (c1) ?_
    refine ex_seq ?_
    refine ex_region ?_
    refine ro_lt (r_as (v := iv 1) rfl) rfl ?_
    refine RO.nil (nx ?_)
    obtain rfl := Option.some.inj h
    refine ex_ret (tq_ret ?_)
    exact ret1 (.inr rfl) rfl rfl (P1.of_flat HS hs rfl)
  refine ex_if_f rfl (bf c1) ?_
  refine ex_skip (nx ?_)
  refine ex_seq ?_
  refine ex_region ?_
  refine ro_lt (r_as (v := iv 0) rfl) rfl ?_
  refine RO.nil (nx ?_)
  obtain rfl := Option.some.inj h
  refine ex_ret ?_
  exact ret1 (.inr rfl) rfl rfl (P1.of_flat HS hs rfl)
theorem c_spec_l1Max {w : World} {a : Int} {b : Int} {r : Int} (h : F_spec_l1Max a b = some r) : Calls Try.prog 159 [iv a, iv b].toArray w (P1 (.int .i64) w r) := by
  unfold F_spec_l1Max at h
  have HS := St.init w
  have hs := Sub.refl (hp w)
  refine calls_ex (n := 10) Try.func159 rfl Try.ntmps159 (Nat.le_of_ble_eq_true rfl) ?_
  refine ex_seq ?_
  refine ex_region ?_
  refine ro_lt (r_as (v := iv 0) rfl) rfl ?_
  refine RO.nil (nx ?_)
  refine ex_seq ?_
  refine ex_seq ?_
  refine ex_region ?_
  refine ro_lt (r_mv (v := iv a) rfl) rfl ?_
  refine ro_lt (r_mv (v := iv b) rfl) rfl ?_
  refine ro_lt (r_gtr rfl rfl) rfl ?_
  refine RO.nil (nx ?_)
  replace h := ite_some h; rcases h with ⟨c1, h⟩ | ⟨c1, h⟩
  · refine ex_if_t rfl (decide_eq_true c1) ?_
    refine ex_seq ?_
    refine ex_region ?_
    refine ro_lt (r_mv (v := iv a) rfl) rfl ?_
    refine ro_lt (r_as (v := iv a) rfl) rfl ?_
    refine RO.nil (nx ?_)
    obtain rfl := Option.some.inj h
    refine ex_ret (tq_ret ?_)
    exact ret1 (.inr rfl) rfl rfl (P1.of_flat HS hs rfl)
  refine ex_if_f rfl (decide_eq_false c1) ?_
  refine ex_skip (nx ?_)
  refine ex_seq ?_
  refine ex_region ?_
  refine ro_lt (r_mv (v := iv b) rfl) rfl ?_
  refine ro_lt (r_as (v := iv b) rfl) rfl ?_
  refine RO.nil (nx ?_)
  obtain rfl := Option.some.inj h
  refine ex_ret ?_
  exact ret1 (.inr rfl) rfl rfl (P1.of_flat HS hs rfl)
theorem c_spec_l1Min {w : World} {a : Int} {b : Int} {r : Int} (h : F_spec_l1Min a b = some r) : Calls Try.prog 160 [iv a, iv b].toArray w (P1 (.int .i64) w r) := by
  unfold F_spec_l1Min at h
  have HS := St.init w
  have hs := Sub.refl (hp w)
  refine calls_ex (n := 10) Try.func160 rfl Try.ntmps160 (Nat.le_of_ble_eq_true rfl) ?_
  refine ex_seq ?_
  refine ex_region ?_
  refine ro_lt (r_as (v := iv 0) rfl) rfl ?_
  refine RO.nil (nx ?_)
  refine ex_seq ?_
  refine ex_seq ?_
  refine ex_region ?_
  refine ro_lt (r_mv (v := iv a) rfl) rfl ?_
  refine ro_lt (r_mv (v := iv b) rfl) rfl ?_
  refine ro_lt (r_lss rfl rfl) rfl ?_
  refine RO.nil (nx ?_)
  replace h := ite_some h; rcases h with ⟨c1, h⟩ | ⟨c1, h⟩
  · refine ex_if_t rfl (decide_eq_true c1) ?_
    refine ex_seq ?_
    refine ex_region ?_
    refine ro_lt (r_mv (v := iv a) rfl) rfl ?_
    refine ro_lt (r_as (v := iv a) rfl) rfl ?_
    refine RO.nil (nx ?_)
    obtain rfl := Option.some.inj h
    refine ex_ret (tq_ret ?_)
    exact ret1 (.inr rfl) rfl rfl (P1.of_flat HS hs rfl)
  refine ex_if_f rfl (decide_eq_false c1) ?_
  refine ex_skip (nx ?_)
  refine ex_seq ?_
  refine ex_region ?_
  refine ro_lt (r_mv (v := iv b) rfl) rfl ?_
  refine ro_lt (r_as (v := iv b) rfl) rfl ?_
  refine RO.nil (nx ?_)
  obtain rfl := Option.some.inj h
  refine ex_ret ?_
  exact ret1 (.inr rfl) rfl rfl (P1.of_flat HS hs rfl)
theorem c_spec_l13Row {w : World} {s : (List (List Int × List Int × Int × Int)) × List Int} {v_s0 : Value} {v_s1 : Value} {i : Int} (r_s0 : Rd (.sl 72 (.prod (.sl 3 (.int .i64)) (.prod (.sl 3 (.int .i64)) (.prod (.int .i64) (.int .i64))))) (hp w) s.1 [v_s0]) (r_s1 : Rd (.sl 3 (.int .i64)) (hp w) s.2 [v_s1]) {r : (List Int)} (h : F_spec_l13Row s i = some r) : Calls Try.prog 129 [.agg #[v_s0, v_s1], iv i].toArray w (P1 (.sl 3 (.int .i64)) w r) := by
  unfold F_spec_l13Row at h
  have HS := St.init w
  have hs := Sub.refl (hp w)
  refine calls_ex (n := 77) Try.func129 rfl Try.ntmps129 (Nat.le_of_ble_eq_true rfl) ?_
  refine ex_seq ?_
  refine ex_region ?_
  refine ro_hy (o_boxz HS (cs := [v_s0, v_s1]) rfl rfl) rfl ?_
  rintro _ w2 ⟨g1, H5, rfl, q3, l4, hb, HS⟩
  replace r_s0 := r_s0.sub q3
  replace r_s1 := r_s1.sub q3
  replace hs := hs.trans q3
  refine ro_lt (r_as (v := .slice none 0 0) rfl) rfl ?_
  refine RO.nil (nx ?_)
  refine ex_seq ?_
  refine ex_region ?_
  refine ro_lt (r_fa (l4.sub HS.sub) fd27_0 rfl) rfl ?_
  refine ro_lt (r_ld ((l4.seg 0 1).sub HS.sub) sc24 rfl) rfl ?_
  have b6 := (r_s0.sub HS.sub).big
  refine ro_lt (r_len (n := 4) (r_s0.sub HS.sub) sl24 rfl) rfl ?_
  refine ro_lt (r_as (v := iv ((s.1.length : Int))) rfl) rfl ?_
  refine RO.nil (nx ?_)
  refine ex_seq ?_
  refine ex_region ?_
  refine ro_hy (o_bsv HS (cs := []) sl25 zz3 (vs := []) rfl rfl vc0 rfl rfl (by decide)) rfl ?_
  rintro _ w8 ⟨g7, rfl, hb, HS⟩
  replace HS := HS.lit0 (.int .i64)
  refine ro_lt (r_as (v := (.slice (some ⟨g7, 0, none⟩) 0 0)) rfl) rfl ?_
  refine RO.nil (nx ?_)
  refine ex_seq ?_
  refine ex_seq ?_
  refine ex_region ?_
  refine ro_lt (r_as (v := iv 0) rfl) rfl ?_
  refine RO.nil (nx ?_)
  replace h := bind_some h; obtain ⟨y35, e36, h⟩ := h
  refine ex_lbo (fun (st : (List Int) × Int) s' w' => ∃ v20 : Value, Has s' [(1, iv i), (2, .pointer (some ⟨g1, 0, none⟩)), (4, .slice none 0 0), (5, iv ((s.1.length : Int))), (6, v20), (7, iv st.2)] ∧ St w H5 w' [.ow (.sl 3 (.int .i64)) st.1 [v20]]) e36 ⟨(.slice (some ⟨g7, 0, none⟩) 0 0), ⟨rfl, rfl, rfl, rfl, rfl, rfl, trivial⟩, HS⟩ ?_ ?_
  · rintro ⟨best_18, b_21⟩ c' s' w22 ⟨v20, hs_, HS⟩ h
    rw [has_put hs_]; clear hs_
    try dsimp only at HS
    replace h : F_spec_l13Row_b1 s i best_18 b_21 = some c' := h
    unfold F_spec_l13Row_b1 at h
    refine ex_seq ?_
    refine ex_seq ?_
    refine ex_region ?_
    refine ro_lt (r_mv (v := iv b_21) rfl) rfl ?_
    refine ro_lt (r_mv (v := iv ((s.1.length : Int))) rfl) rfl ?_
    refine ro_lt (r_lss rfl rfl) rfl ?_
    refine RO.nil (nx ?_)
    replace h := ite_some h; rcases h with ⟨c23, h⟩ | ⟨c23, h⟩
    rotate_left
    · refine ex_if_f rfl (decide_eq_false c23) ?_
      refine ex_exit (tq_exit ?_)
      obtain rfl := Option.some.inj h
      exact lq_out ⟨v20, ⟨rfl, rfl, rfl, rfl, rfl, rfl, trivial⟩, HS⟩
    refine ex_if_t rfl (decide_eq_true c23) ?_
    refine ex_skip (nx ?_)
    refine ex_seq ?_
    refine ex_block ?_
    refine ex_region ?_
    refine ro_lt (r_mv (v := v20) rfl) rfl ?_
    refine ro_lt (r_lda (l4.sub HS.sub) ag27 rfl rfl) rfl ?_
    refine ro_lt (r_mv (v := iv i) rfl) rfl ?_
    refine ro_lt (r_mv (v := iv b_21) rfl) rfl ?_
    replace h := bind_some h; obtain ⟨y24, e25, h⟩ := h
    refine ro_hy (o_cf (vs := [.agg #[v_s0, v_s1], iv i, iv b_21]) HS rfl (c_spec_NextOf (r_s0.sub HS.sub) (r_s1.sub HS.sub) e25) cf57 rfl) rfl ?_
    rintro _ w26 ⟨rfl, hb, HS⟩
    refine ro_hy (o_bsv HS (cs := [iv y24]) sl25 zz3 (vs := [iv y24]) rfl rfl (vc rfl vc0) rfl rfl (by decide)) rfl ?_
    rintro _ w28 ⟨g27, rfl, hb, HS⟩
    replace h := grd_some h; obtain ⟨g30, h⟩ := h
    refine ro_hy (o_appf (HS.sel (G := [_, _]) [1] 0 rfl) rfl rfl rfl rfl sl25 zz3 g30) rfl ?_
    rintro v32 w33 ⟨HS, hk⟩
    refine ro_lt (r_as (v := v32) rfl) rfl ?_
    refine RO.nil (blk_nx (nx ?_))
    refine ex_region ?_
    refine ro_lt (r_mv (v := iv b_21) rfl) rfl ?_
    refine ro_lt (r_addw rfl rfl) rfl ?_
    refine ro_lt (r_as (v := iv (wi (b_21 + 1))) rfl) rfl ?_
    refine RO.nil ?_
    obtain rfl := Option.some.inj h
    exact lq_go ⟨v32, ⟨rfl, rfl, rfl, rfl, rfl, rfl, trivial⟩, HS⟩
  rintro s' w37 ⟨v20, hs_, HS⟩
  rw [has_put hs_]; clear hs_
  refine (nx ?_)
  refine ex_seq ?_
  refine ex_seq ?_
  refine ex_region ?_
  refine ro_lt (r_as (v := iv 0) rfl) rfl ?_
  refine RO.nil (nx ?_)
  replace h := bind_some h; obtain ⟨y91, e92, h⟩ := h
  refine ex_lbo (fun (st : (List Int) × Int) s' w' => ∃ v49 : Value, Has s' [(1, iv i), (2, .pointer (some ⟨g1, 0, none⟩)), (4, .slice none 0 0), (5, iv ((s.1.length : Int))), (6, v49), (8, iv st.2)] ∧ St w H5 w' [.ow (.sl 3 (.int .i64)) st.1 [v49]]) e92 ⟨v20, ⟨rfl, rfl, rfl, rfl, rfl, rfl, trivial⟩, HS⟩ ?_ ?_
  · rintro ⟨best_47, round_50⟩ c' s' w51 ⟨v49, hs_, HS⟩ h
    rw [has_put hs_]; clear hs_
    try dsimp only at HS
    replace h : F_spec_l13Row_b4 s best_47 round_50 = some c' := h
    unfold F_spec_l13Row_b4 at h
    refine ex_seq ?_
    refine ex_seq ?_
    refine ex_region ?_
    refine ro_lt (r_mv (v := iv round_50) rfl) rfl ?_
    refine ro_lt (r_mv (v := iv ((s.1.length : Int))) rfl) rfl ?_
    refine ro_lt (r_lss rfl rfl) rfl ?_
    refine RO.nil (nx ?_)
    replace h := ite_some h; rcases h with ⟨c52, h⟩ | ⟨c52, h⟩
    rotate_left
    · refine ex_if_f rfl (decide_eq_false c52) ?_
      refine ex_exit (tq_exit ?_)
      obtain rfl := Option.some.inj h
      exact lq_out ⟨v49, ⟨rfl, rfl, rfl, rfl, rfl, rfl, trivial⟩, HS⟩
    refine ex_if_t rfl (decide_eq_true c52) ?_
    refine ex_skip (nx ?_)
    refine ex_seq ?_
    refine ex_block ?_
    refine ex_seq ?_
    refine ex_region ?_
    refine ro_lt (r_as (v := iv 0) rfl) rfl ?_
    refine RO.nil (nx ?_)
    replace h := bind_some h; obtain ⟨y87, e88, h⟩ := h
    refine ex_lbo (fun (st : (List Int) × Int) s' w' => ∃ v57 : Value, Has s' [(1, iv i), (2, .pointer (some ⟨g1, 0, none⟩)), (4, .slice none 0 0), (5, iv ((s.1.length : Int))), (6, v57), (8, iv round_50), (9, iv st.2)] ∧ St w H5 w' [.ow (.sl 3 (.int .i64)) st.1 [v57]]) e88 ⟨v49, ⟨rfl, rfl, rfl, rfl, rfl, rfl, rfl, trivial⟩, HS⟩ ?_ ?_
    · rintro ⟨best_55, a_58⟩ c' s' w59 ⟨v57, hs_, HS⟩ h
      rw [has_put hs_]; clear hs_
      try dsimp only at HS
      replace h : F_spec_l13Row_b3 s best_55 a_58 = some c' := h
      unfold F_spec_l13Row_b3 at h
      refine ex_seq ?_
      refine ex_seq ?_
      refine ex_region ?_
      refine ro_lt (r_mv (v := iv a_58) rfl) rfl ?_
      refine ro_lt (r_mv (v := iv ((s.1.length : Int))) rfl) rfl ?_
      refine ro_lt (r_lss rfl rfl) rfl ?_
      refine RO.nil (nx ?_)
      replace h := ite_some h; rcases h with ⟨c60, h⟩ | ⟨c60, h⟩
      rotate_left
      · refine ex_if_f rfl (decide_eq_false c60) ?_
        refine ex_exit (tq_exit ?_)
        obtain rfl := Option.some.inj h
        exact lq_out ⟨v57, ⟨rfl, rfl, rfl, rfl, rfl, rfl, rfl, trivial⟩, HS⟩
      refine ex_if_t rfl (decide_eq_true c60) ?_
      refine ex_skip (nx ?_)
      refine ex_seq ?_
      refine ex_block ?_
      refine ex_seq ?_
      refine ex_region ?_
      refine ro_lt (r_as (v := iv 0) rfl) rfl ?_
      refine RO.nil (nx ?_)
      replace h := bind_some h; obtain ⟨y83, e84, h⟩ := h
      refine ex_lbo (fun (st : (List Int) × Int) s' w' => ∃ v65 : Value, Has s' [(1, iv i), (2, .pointer (some ⟨g1, 0, none⟩)), (4, .slice none 0 0), (5, iv ((s.1.length : Int))), (6, v65), (8, iv round_50), (9, iv a_58), (10, iv st.2)] ∧ St w H5 w' [.ow (.sl 3 (.int .i64)) st.1 [v65]]) e84 ⟨v57, ⟨rfl, rfl, rfl, rfl, rfl, rfl, rfl, rfl, trivial⟩, HS⟩ ?_ ?_
      · rintro ⟨best_63, b_66⟩ c' s' w67 ⟨v65, hs_, HS⟩ h
        rw [has_put hs_]; clear hs_
        try dsimp only at HS
        replace h : F_spec_l13Row_b2 s a_58 best_63 b_66 = some c' := h
        unfold F_spec_l13Row_b2 at h
        refine ex_seq ?_
        refine ex_seq ?_
        refine ex_region ?_
        refine ro_lt (r_mv (v := iv b_66) rfl) rfl ?_
        refine ro_lt (r_mv (v := iv ((s.1.length : Int))) rfl) rfl ?_
        refine ro_lt (r_lss rfl rfl) rfl ?_
        refine RO.nil (nx ?_)
        replace h := ite_some h; rcases h with ⟨c68, h⟩ | ⟨c68, h⟩
        rotate_left
        · refine ex_if_f rfl (decide_eq_false c68) ?_
          refine ex_exit (tq_exit ?_)
          obtain rfl := Option.some.inj h
          exact lq_out ⟨v65, ⟨rfl, rfl, rfl, rfl, rfl, rfl, rfl, rfl, trivial⟩, HS⟩
        refine ex_if_t rfl (decide_eq_true c68) ?_
        refine ex_skip (nx ?_)
        refine ex_seq ?_
        refine ex_block ?_
        refine ex_dr (Mm H5 [5, 9]) (fun _ => True) [0, 0, 0, 0, 12, 28, 0, 0, 192, 448, 0, 0, 0, 7168, 16320, 32764, 65535, 131071] [13, 14, 15, 17] (.op 0 (.op 1 (.op 2 (.op 3 (.op 4 (.op 5 (.op 6 (.op 7 (.op 8 (.op 9 (.op 10 (.op 11 (.op 12 (.op 13 (.op 14 (.op 15 (.op 16 (.op 17 .nil)))))))))))))))))) mix (by kernel_rfl) (by kernel_rfl) ?_
        intro w69 hw hb; have HS := HS.ext hb; clear hw hb
        refine RT.lt rfl rfl rfl rfl (fun w' k => r_mv (v := v65) rfl) ?_
        refine RT.lt rfl rfl rfl rfl (fun w' k => r_mv (v := iv b_66) rfl) ?_
        refine RT.lt rfl rfl rfl rfl (fun w' k => r_mv (v := v65) rfl) ?_
        refine RT.lt rfl rfl rfl rfl (fun w' k => r_mv (v := iv b_66) rfl) ?_
        replace h := grd_some h; obtain ⟨g70, h⟩ := h
        refine RT.lt rfl rfl rfl rfl (fun w' k => r_ia (HS.rd 0 rfl) sl25 g70.1 g70.2 rfl rfl) ?_
        refine RT.lt rfl rfl rfl rfl (fun w' k => r_ld (((HS.rd 0 rfl).int g70.1 g70.2).k0 (Sub.refl _) (k.kp.none rfl)) sc3 rfl) ?_
        refine RT.lt rfl rfl rfl rfl (fun w' k => r_mv (v := v65) rfl) ?_
        refine RT.lt rfl rfl rfl rfl (fun w' k => r_mv (v := iv a_58) rfl) ?_
        replace h := grd_some h; obtain ⟨g71, h⟩ := h
        refine RT.lt rfl rfl rfl rfl (fun w' k => r_ia (HS.rd 0 rfl) sl25 g71.1 g71.2 rfl rfl) ?_
        refine RT.lt rfl rfl rfl rfl (fun w' k => r_ld (((HS.rd 0 rfl).int g71.1 g71.2).k0 (Sub.refl _) (k.kp.none rfl)) sc3 rfl) ?_
        refine RT.lt rfl rfl rfl rfl (fun w' k => r_lda (l4.kp HS.sub k.kp (mh rfl)) ag27 rfl rfl) ?_
        refine RT.lt rfl rfl rfl rfl (fun w' k => r_mv (v := iv a_58) rfl) ?_
        refine RT.lt rfl rfl rfl rfl (fun w' k => r_mv (v := iv b_66) rfl) ?_
        replace h := bind_some h; obtain ⟨y72, e73, h⟩ := h
        refine RT.hy rfl rfl rfl rfl rfl (o_cf (vs := [.agg #[v_s0, v_s1], iv a_58, iv b_66]) HS rfl (c_spec_NextOf (r_s0.sub HS.sub) (r_s1.sub HS.sub) e73) cf57 rfl) (fun _ _ ⟨_, hb, _⟩ => km_below hb (fun _ => trivial)) ?_
        rintro _ w74 ⟨rfl, hb, HS⟩
        replace h := bind_some h; obtain ⟨y75, e76, h⟩ := h
        refine RT.hy rfl rfl rfl rfl rfl (o_cf (vs := [iv (best_63.getD a_58.toNat 0), iv y72]) HS rfl (c_spec_l1Min e76) cf160 rfl) (fun _ _ ⟨_, hb, _⟩ => km_below hb (fun _ => trivial)) ?_
        rintro _ w77 ⟨rfl, hb, HS⟩
        replace h := bind_some h; obtain ⟨y78, e79, h⟩ := h
        refine RT.hy rfl rfl rfl rfl rfl (o_cf (vs := [iv (best_63.getD b_66.toNat 0), iv y75]) HS rfl (c_spec_l1Max e79) cf159 rfl) (fun _ _ ⟨_, hb, _⟩ => km_below hb (fun _ => trivial)) ?_
        rintro _ w80 ⟨rfl, hb, HS⟩
        refine RT.lt rfl rfl rfl rfl (fun w' k => r_ia (HS.rd 0 rfl) sl25 g70.1 g70.2 rfl rfl) ?_
        refine RT.hy rfl rfl rfl rfl rfl (o_set (x' := y78) HS rfl g70.1 g70.2 st3 rfl rfl) (fun _ _ ⟨_, hk, HS2⟩ => km_st HS (Sub.refl _) (hk _ fun _ h => h) (own_none HS) (by kernel_rfl) (fun _ => trivial)) ?_
        rintro _ w81 ⟨rfl, hk, HS⟩
        refine RT.nil (blk_nx (nx ?_))
        refine ex_region ?_
        refine ro_lt (r_mv (v := iv b_66) rfl) rfl ?_
        refine ro_lt (r_addw rfl rfl) rfl ?_
        refine ro_lt (r_as (v := iv (wi (b_66 + 1))) rfl) rfl ?_
        refine RO.nil ?_
        obtain rfl := Option.some.inj h
        exact lq_go ⟨v65, ⟨rfl, rfl, rfl, rfl, rfl, rfl, rfl, rfl, trivial⟩, HS⟩
      rintro s' w85 ⟨v65, hs_, HS⟩
      rw [has_put hs_]; clear hs_
      refine (blk_nx (nx ?_))
      refine ex_region ?_
      refine ro_lt (r_mv (v := iv a_58) rfl) rfl ?_
      refine ro_lt (r_addw rfl rfl) rfl ?_
      refine ro_lt (r_as (v := iv (wi (a_58 + 1))) rfl) rfl ?_
      refine RO.nil ?_
      obtain rfl := Option.some.inj h
      exact lq_go ⟨v65, ⟨rfl, rfl, rfl, rfl, rfl, rfl, rfl, trivial⟩, HS⟩
    rintro s' w89 ⟨v57, hs_, HS⟩
    rw [has_put hs_]; clear hs_
    refine (blk_nx (nx ?_))
    refine ex_region ?_
    refine ro_lt (r_mv (v := iv round_50) rfl) rfl ?_
    refine ro_lt (r_addw rfl rfl) rfl ?_
    refine ro_lt (r_as (v := iv (wi (round_50 + 1))) rfl) rfl ?_
    refine RO.nil ?_
    obtain rfl := Option.some.inj h
    exact lq_go ⟨v57, ⟨rfl, rfl, rfl, rfl, rfl, rfl, trivial⟩, HS⟩
  rintro s' w93 ⟨v49, hs_, HS⟩
  rw [has_put hs_]; clear hs_
  refine (nx ?_)
  refine ex_seq ?_
  refine ex_dr (Mm H5 [5]) (fun _ => True) [0, 0, 0, 0, 12, 28, 0, 64, 0, 448, 960, 1984, 4032, 8128, 16320, 32764, 65535, 131071] [13, 15, 17] (.op 0 (.op 1 (.op 2 (.op 3 (.op 4 (.op 5 (.op 6 (.op 7 (.op 8 (.op 9 (.op 10 (.op 11 (.op 12 (.op 13 (.op 14 (.op 15 (.op 16 (.op 17 .nil)))))))))))))))))) mix (by kernel_rfl) (by kernel_rfl) ?_
  intro w95 hw hb; have HS := HS.ext hb; clear hw hb
  refine RT.lt rfl rfl rfl rfl (fun w' k => r_mv (v := v49) rfl) ?_
  refine RT.lt rfl rfl rfl rfl (fun w' k => r_mv (v := iv i) rfl) ?_
  refine RT.lt rfl rfl rfl rfl (fun w' k => r_mv (v := v49) rfl) ?_
  refine RT.lt rfl rfl rfl rfl (fun w' k => r_mv (v := iv i) rfl) ?_
  replace h := grd_some h; obtain ⟨g96, h⟩ := h
  refine RT.lt rfl rfl rfl rfl (fun w' k => r_ia (HS.rd 0 rfl) sl25 g96.1 g96.2 rfl rfl) ?_
  refine RT.lt rfl rfl rfl rfl (fun w' k => r_ld (((HS.rd 0 rfl).int g96.1 g96.2).k0 (Sub.refl _) (k.kp.none rfl)) sc3 rfl) ?_
  refine RT.lt rfl rfl rfl rfl (fun w' k => r_fa (l4.sub HS.sub) fd27_0 rfl) ?_
  refine RT.lt rfl rfl rfl rfl (fun w' k => r_ld ((l4.seg 0 1).kp HS.sub k.kp (mh rfl)) sc24 rfl) ?_
  refine RT.lt rfl rfl rfl rfl (fun w' k => r_mv (v := iv i) rfl) ?_
  replace h := grd_some h; obtain ⟨g97, h⟩ := h
  obtain ⟨_, q98, l99⟩ := r_s0.idx g97.1 g97.2
  obtain ⟨v100, v102, rfl, r101, r103⟩ := rd_K72 q98
  refine RT.lt rfl rfl rfl rfl (fun w' k => r_ia (r_s0.sub HS.sub) sl24 g97.1 g97.2 rfl rfl) ?_
  refine RT.lt rfl rfl rfl rfl (fun w' k => r_fa (l99.sub HS.sub) fd72_3 rfl) ?_
  refine RT.lt rfl rfl rfl rfl (fun w' k => r_ld ((l99.seg 3 1).kp HS.sub k.kp (mh rfl)) sc3 rfl) ?_
  refine RT.lt rfl rfl rfl rfl (fun w' k => r_neq rfl rfl) ?_
  replace h := bind_some h; obtain ⟨y104, e105, h⟩ := h
  refine RT.hy rfl rfl rfl rfl rfl (o_cf (vs := [.bool ((!(decide ((((s.1.getD i.toNat (([] : List Int), ([] : List Int), 0, 0)).2).2).2 = 0))))]) HS rfl (c_spec_l1Bit e105) cf130 rfl) (fun _ _ ⟨_, hb, _⟩ => km_below hb (fun _ => trivial)) ?_
  rintro _ w106 ⟨rfl, hb, HS⟩
  refine RT.lt rfl rfl rfl rfl (fun w' k => r_subw rfl rfl) ?_
  replace h := bind_some h; obtain ⟨y107, e108, h⟩ := h
  refine RT.hy rfl rfl rfl rfl rfl (o_cf (vs := [iv (y91.1.getD i.toNat 0), iv (wi (2 - y104))]) HS rfl (c_spec_l1Max e108) cf159 rfl) (fun _ _ ⟨_, hb, _⟩ => km_below hb (fun _ => trivial)) ?_
  rintro _ w109 ⟨rfl, hb, HS⟩
  refine RT.lt rfl rfl rfl rfl (fun w' k => r_ia (HS.rd 0 rfl) sl25 g96.1 g96.2 rfl rfl) ?_
  refine RT.hy rfl rfl rfl rfl rfl (o_set (x' := y107) HS rfl g96.1 g96.2 st3 rfl rfl) (fun _ _ ⟨_, hk, HS2⟩ => km_st HS (Sub.refl _) (hk _ fun _ h => h) (own_none HS) (by kernel_rfl) (fun _ => trivial)) ?_
  rintro _ w110 ⟨rfl, hk, HS⟩
  refine RT.nil (nx ?_)
  refine ex_seq ?_
  refine ex_region ?_
  refine ro_lt (r_mv (v := v49) rfl) rfl ?_
  refine ro_lt (r_as (v := v49) rfl) rfl ?_
  refine RO.nil (nx ?_)
  obtain rfl := Option.some.inj h
  refine ex_ret ?_
  exact ret1 (.inr rfl) rfl rfl (P1.of HS hs)
theorem c_spec_l20Paths {w : World} {H : Hp} {FR : List Ob} {g_r : Nat} {r_vars : Int} {v_r_Nodes : Value} {n_r : Nat} {sh_r : Shp} {r_Nodes : List (List Int × List Int × Int × Int)} {v_r_Next : Value} {r_Next : List Int} {r_changed : Bool} {r_bad : Bool} (HS : St w H w (.bx g_r 91 [iv r_vars, v_r_Nodes, v_r_Next, .bool r_changed, .bool r_bad] :: .pr (NS 72 3 n_r v_r_Nodes sh_r r_Nodes) :: .ow (.sl 3 (.int .i64)) r_Next [v_r_Next] :: FR)) {r : List (List Int × List Int × Int × Int) × List Int × Bool × Bool} (h : F_spec_l20Paths r_vars n_r r_Nodes r_Next r_changed r_bad = some r) : Calls Try.prog 80 [.pointer (some ⟨g_r, 0, none⟩)].toArray w (((fun r => PS (.tuple #[]) fun w' => St w H w' (.bx g_r 91 [iv r_vars, v_r_Nodes, v_r_Next, .bool r.2.2.1, .bool r.2.2.2] :: .pr (NS 72 3 n_r v_r_Nodes sh_r r.1) :: .ow (.sl 3 (.int .i64)) r.2.1 [v_r_Next] :: FR)) : (List (List Int × List Int × Int × Int) × List Int × Bool × Bool) → Ending → World → Prop) r) := by
  unfold F_spec_l20Paths at h
  refine calls_ex (n := 65) Try.func80 rfl Try.ntmps80 (Nat.le_of_ble_eq_true rfl) ?_
  refine ex_seq ?_
  refine ex_region ?_
  refine ro_lt (r_as (v := iv 0) rfl) rfl ?_
  refine RO.nil (nx ?_)
  replace h := bind_some h; obtain ⟨y64, e65, h⟩ := h
  refine ex_lbo (fun (st : Bool × Bool × (List (List Int × List Int × Int × Int)) × (List Int) × Int) s' w' => Has s' [(0, .pointer (some ⟨g_r, 0, none⟩)), (2, iv st.2.2.2.2)] ∧ St w H w' (.bx g_r 91 [iv r_vars, v_r_Nodes, v_r_Next, .bool st.1, .bool st.2.1] :: .pr (NS 72 3 n_r v_r_Nodes sh_r st.2.2.1) :: .ow (.sl 3 (.int .i64)) st.2.2.2.1 [v_r_Next] :: FR)) e65 ⟨⟨rfl, rfl, trivial⟩, HS⟩ ?_ ?_
  · rintro ⟨changed_13, bad_14, Nodes_15, Next_16, z_17⟩ c' s' w18 ⟨hs_, HS⟩ h
    rw [has_put hs_]; clear hs_
    try dsimp only at HS
    replace h : F_spec_l20Paths_b3 r_vars n_r changed_13 bad_14 Nodes_15 Next_16 z_17 = some c' := h
    unfold F_spec_l20Paths_b3 at h
    refine ex_seq ?_
    refine ex_seq ?_
    refine ex_region ?_
    refine ro_lt (r_mv (v := iv z_17) rfl) rfl ?_
    refine ro_lt (r_mv (v := .pointer (some ⟨g_r, 0, none⟩)) rfl) rfl ?_
    refine ro_lt (r_nc (HS.boxAt 0 rfl) rfl) rfl ?_
    refine ro_lt (r_fa (HS.boxAt 0 rfl) fd91_0 rfl) rfl ?_
    refine ro_lt (r_ld ((HS.boxAt 0 rfl).seg 0 1) sc3 rfl) rfl ?_
    refine ro_lt (r_lss rfl rfl) rfl ?_
    refine RO.nil (nx ?_)
    replace h := ite_some h; rcases h with ⟨c19, h⟩ | ⟨c19, h⟩
    rotate_left
    · refine ex_if_f rfl (decide_eq_false c19) ?_
      refine ex_exit (tq_exit ?_)
      obtain rfl := Option.some.inj h
      exact lq_out ⟨⟨rfl, rfl, trivial⟩, HS⟩
    refine ex_if_t rfl (decide_eq_true c19) ?_
    refine ex_skip (nx ?_)
    refine ex_seq ?_
    refine ex_block ?_
    refine ex_seq ?_
    refine ex_region ?_
    refine ro_lt (r_as (v := iv 0) rfl) rfl ?_
    refine RO.nil (nx ?_)
    replace h := bind_some h; obtain ⟨y60, e61, h⟩ := h
    refine ex_lbo (fun (st : Bool × Bool × (List (List Int × List Int × Int × Int)) × (List Int) × Int) s' w' => Has s' [(0, .pointer (some ⟨g_r, 0, none⟩)), (2, iv z_17), (3, iv st.2.2.2.2)] ∧ St w H w' (.bx g_r 91 [iv r_vars, v_r_Nodes, v_r_Next, .bool st.1, .bool st.2.1] :: .pr (NS 72 3 n_r v_r_Nodes sh_r st.2.2.1) :: .ow (.sl 3 (.int .i64)) st.2.2.2.1 [v_r_Next] :: FR)) e61 ⟨⟨rfl, rfl, rfl, trivial⟩, HS⟩ ?_ ?_
    · rintro ⟨changed_22, bad_23, Nodes_24, Next_25, u_26⟩ c' s' w27 ⟨hs_, HS⟩ h
      rw [has_put hs_]; clear hs_
      try dsimp only at HS
      replace h : F_spec_l20Paths_b2 n_r z_17 r_vars changed_22 bad_23 Nodes_24 Next_25 u_26 = some c' := h
      unfold F_spec_l20Paths_b2 at h
      refine ex_seq ?_
      refine ex_seq ?_
      refine ex_region ?_
      refine ro_lt (r_mv (v := iv u_26) rfl) rfl ?_
      refine ro_lt (r_mv (v := .pointer (some ⟨g_r, 0, none⟩)) rfl) rfl ?_
      refine ro_lt (r_nc (HS.boxAt 0 rfl) rfl) rfl ?_
      refine ro_lt (r_fa (HS.boxAt 0 rfl) fd91_1 rfl) rfl ?_
      refine ro_lt (r_fa ((HS.boxAt 0 rfl).seg 1 2) fd27_0 rfl) rfl ?_
      refine ro_lt (r_ld (((HS.boxAt 0 rfl).seg 1 2).seg 0 1) sc24 rfl) rfl ?_
      have b28 := HS.nsBig 1 rfl
      refine ro_lt (r_lenn (m := 4) HS (k := 1) rfl sl24 rfl) rfl ?_
      refine ro_lt (r_lss rfl rfl) rfl ?_
      refine ro_lt (r_mv (v := .bool ((decide (u_26 < (n_r : Int))))) rfl) rfl ?_
      replace h := ite_some h; rcases h with ⟨c29, h⟩ | ⟨c29, h⟩
      rotate_left
      · refine ro_off (sb (decide_eq_false c29)) rfl rfl ?_
        refine ro_off (sb (decide_eq_false c29)) rfl rfl ?_
        refine ro_off (sb (decide_eq_false c29)) rfl rfl ?_
        refine ro_off (sb (decide_eq_false c29)) rfl rfl ?_
        refine ro_off (sb (decide_eq_false c29)) rfl rfl ?_
        refine ro_lt (r_pickf (v := .bool false) (decide_eq_false c29) rfl rfl) rfl ?_
        refine RO.nil (nx ?_)
        refine ex_if_f rfl (rfl) ?_
        refine ex_exit (tq_exit ?_)
        obtain rfl := Option.some.inj h
        exact lq_out ⟨⟨rfl, rfl, rfl, trivial⟩, HS⟩
      refine ro_on (sb (decide_eq_true c29)) ?_
      refine ro_lt (r_mv (v := .pointer (some ⟨g_r, 0, none⟩)) rfl) rfl ?_
      refine ro_on (sb (decide_eq_true c29)) ?_
      refine ro_lt (r_nc (HS.boxAt 0 rfl) rfl) rfl ?_
      refine ro_on (sb (decide_eq_true c29)) ?_
      refine ro_lt (r_fa (HS.boxAt 0 rfl) fd91_3 rfl) rfl ?_
      refine ro_on (sb (decide_eq_true c29)) ?_
      refine ro_lt (r_ld ((HS.boxAt 0 rfl).seg 4 1) sc4 rfl) rfl ?_
      refine ro_on (sb (decide_eq_true c29)) ?_
      refine ro_lt (r_not rfl) rfl ?_
      refine ro_lt (r_pickt (v := .bool ((!bad_23))) (decide_eq_true c29) rfl rfl) rfl ?_
      refine RO.nil (nx ?_)
      replace h := ite_some h; rcases h with ⟨c30, h⟩ | ⟨c30, h⟩
      · refine ex_if_f rfl (congrArg (!·) (c30)) ?_
        refine ex_exit (tq_exit ?_)
        obtain rfl := Option.some.inj h
        exact lq_out ⟨⟨rfl, rfl, rfl, trivial⟩, HS⟩
      refine ex_if_t rfl (congrArg (!·) (bf c30)) ?_
      refine ex_skip (nx ?_)
      refine ex_seq ?_
      refine ex_block ?_
      refine ex_seq ?_
      refine ex_seq ?_
      refine ex_region ?_
      refine ro_lt (r_mv (v := .pointer (some ⟨g_r, 0, none⟩)) rfl) rfl ?_
      refine ro_lt (r_nc (HS.boxAt 0 rfl) rfl) rfl ?_
      refine ro_lt (r_fa (HS.boxAt 0 rfl) fd91_1 rfl) rfl ?_
      refine ro_lt (r_fa ((HS.boxAt 0 rfl).seg 1 2) fd27_0 rfl) rfl ?_
      refine ro_lt (r_ld (((HS.boxAt 0 rfl).seg 1 2).seg 0 1) sc24 rfl) rfl ?_
      refine ro_lt (r_mv (v := iv u_26) rfl) rfl ?_
      replace h := grd_some h; obtain ⟨g31, h⟩ := h
      refine ro_lt (r_ian HS (k := 1) rfl sl24 g31.1 g31.2 rfl rfl) rfl ?_
      refine ro_lt (r_fa (HS.nsAt 1 rfl (i := u_26.toNat) (by omega)) fd72_0 rfl) rfl ?_
      refine ro_lt (r_ld (v := (sh_r u_26.toNat).1) ((HS.nsAt 1 rfl (i := u_26.toNat) (by omega)).seg 0 1) sc25 rfl) rfl ?_
      refine ro_lt (r_mv (v := iv z_17) rfl) rfl ?_
      replace h := grd_some h; obtain ⟨g32, h⟩ := h
      refine ro_lt (r_ia (HS.nsR1 1 rfl (i := u_26.toNat) (by omega)) sl25 g32.1 g32.2 rfl rfl) rfl ?_
      refine ro_lt (r_ld ((HS.nsR1 1 rfl (i := u_26.toNat) (by omega)).int g32.1 g32.2) sc3 rfl) rfl ?_
      refine ro_lt (r_neq rfl rfl) rfl ?_
      refine RO.nil (nx ?_)
      replace h := ite_some h; rcases h with ⟨c33, h⟩ | ⟨c33, h⟩
      rotate_left
      · refine ex_if_t rfl (congrArg (!·) (decide_eq_false c33)) ?_
        refine ex_exit (tq_exit (blk_exit (nx ?_)))
        refine ex_region ?_
        refine ro_lt (r_mv (v := iv u_26) rfl) rfl ?_
        refine ro_lt (r_addw rfl rfl) rfl ?_
        refine ro_lt (r_as (v := iv (wi (u_26 + 1))) rfl) rfl ?_
        refine RO.nil ?_
        obtain rfl := Option.some.inj h
        exact lq_go ⟨⟨rfl, rfl, rfl, trivial⟩, HS⟩
      refine ex_if_f rfl (congrArg (!·) (decide_eq_true c33)) ?_
      refine ex_skip (nx ?_)
      refine ex_seq ?_
      refine ex_region ?_
      refine ro_lt (r_mv (v := .pointer (some ⟨g_r, 0, none⟩)) rfl) rfl ?_
      refine ro_lt (r_nc (HS.boxAt 0 rfl) rfl) rfl ?_
      refine ro_lt (r_fa (HS.boxAt 0 rfl) fd91_1 rfl) rfl ?_
      refine ro_lt (r_lda ((HS.boxAt 0 rfl).seg 1 2) ag27 rfl rfl) rfl ?_
      refine ro_lt (r_mv (v := iv u_26) rfl) rfl ?_
      replace h := bind_some h; obtain ⟨y34, e35, h⟩ := h
      refine ro_hy (o_c1 (vs := [.agg #[v_r_Nodes, v_r_Next], iv u_26]) HS (c_spec_l13Row (HS.nsRd 1 rfl) (HS.rd 2 rfl) e35) cf129 rfl) rfl ?_
      rintro _ w36 ⟨cs37, rfl, hb, HS⟩
      obtain ⟨v39, rfl, -⟩ := (HS.rd 0 rfl).one
      refine ro_lt (r_as (v := v39) rfl) rfl ?_
      refine RO.nil (nx ?_)
      refine ex_seq ?_
      refine ex_region ?_
      refine ro_lt (r_as (v := iv 0) rfl) rfl ?_
      refine RO.nil (nx ?_)
      replace h := bind_some h; obtain ⟨y56, e57, h⟩ := h
      refine ex_lbo (fun (st : Bool × Bool × (List (List Int × List Int × Int × Int)) × (List Int) × Int) s' w' => Has s' [(0, .pointer (some ⟨g_r, 0, none⟩)), (2, iv z_17), (3, iv u_26), (4, v39), (5, iv st.2.2.2.2)] ∧ St w H w' (.ow (.sl 3 (.int .i64)) y34 [v39] :: .bx g_r 91 [iv r_vars, v_r_Nodes, v_r_Next, .bool st.1, .bool st.2.1] :: .pr (NS 72 3 n_r v_r_Nodes sh_r st.2.2.1) :: .ow (.sl 3 (.int .i64)) st.2.2.2.1 [v_r_Next] :: FR)) e57 ⟨⟨rfl, rfl, rfl, rfl, rfl, trivial⟩, HS⟩ ?_ ?_
      · rintro ⟨changed_42, bad_43, Nodes_44, Next_45, v_46⟩ c' s' w47 ⟨hs_, HS⟩ h
        rw [has_put hs_]; clear hs_
        try dsimp only at HS
        replace h : F_spec_l20Paths_b1 y34 r_vars n_r z_17 changed_42 bad_43 Nodes_44 Next_45 v_46 = some c' := h
        unfold F_spec_l20Paths_b1 at h
        refine ex_seq ?_
        refine ex_seq ?_
        refine ex_region ?_
        refine ro_lt (r_mv (v := iv v_46) rfl) rfl ?_
        refine ro_lt (r_mv (v := v39) rfl) rfl ?_
        have b48 := (HS.rd 0 rfl).big
        refine ro_lt (r_len (n := 1) (HS.rd 0 rfl) sl25 rfl) rfl ?_
        refine ro_lt (r_lss rfl rfl) rfl ?_
        refine RO.nil (nx ?_)
        replace h := ite_some h; rcases h with ⟨c49, h⟩ | ⟨c49, h⟩
        rotate_left
        · refine ex_if_f rfl (decide_eq_false c49) ?_
          refine ex_exit (tq_exit ?_)
          obtain rfl := Option.some.inj h
          exact lq_out ⟨⟨rfl, rfl, rfl, rfl, rfl, trivial⟩, HS⟩
        refine ex_if_t rfl (decide_eq_true c49) ?_
        refine ex_skip (nx ?_)
        refine ex_seq ?_
        refine ex_block ?_
        refine ex_seq ?_
        refine ex_region ?_
        refine ro_lt (r_mv (v := v39) rfl) rfl ?_
        refine ro_lt (r_mv (v := iv v_46) rfl) rfl ?_
        replace h := grd_some h; obtain ⟨g50, h⟩ := h
        refine ro_lt (r_ia (HS.rd 0 rfl) sl25 g50.1 g50.2 rfl rfl) rfl ?_
        refine ro_lt (r_ld ((HS.rd 0 rfl).int g50.1 g50.2) sc3 rfl) rfl ?_
        refine ro_lt (r_eql rfl rfl) rfl ?_
        refine RO.nil (nx ?_)
        replace h := ite_some h; rcases h with ⟨c51, h⟩ | ⟨c51, h⟩
        rotate_left
        · refine ex_if_f rfl (decide_eq_false c51) ?_
          refine ex_skip (blk_nx (nx ?_))
          refine ex_region ?_
          refine ro_lt (r_mv (v := iv v_46) rfl) rfl ?_
          refine ro_lt (r_addw rfl rfl) rfl ?_
          refine ro_lt (r_as (v := iv (wi (v_46 + 1))) rfl) rfl ?_
          refine RO.nil ?_
          obtain rfl := Option.some.inj h
          exact lq_go ⟨⟨rfl, rfl, rfl, rfl, rfl, trivial⟩, HS⟩
        refine ex_if_t rfl (decide_eq_true c51) ?_
        refine ex_region ?_
        refine ro_lt (r_mv (v := .pointer (some ⟨g_r, 0, none⟩)) rfl) rfl ?_
        refine ro_lt (r_mv (v := iv z_17) rfl) rfl ?_
        refine ro_lt (r_mv (v := iv v_46) rfl) rfl ?_
        replace h := bind_some h; obtain ⟨y52, e53, h⟩ := h
        refine ro_hy (o_cs (vs := [.pointer (some ⟨g_r, 0, none⟩), iv z_17, iv v_46, iv 0]) (c_spec_l20Reach (HS.sel (G := _ :: _ :: _ :: _ :: FR) [1, 1, 1] 0 rfl).self e53) cf126 rfl) rfl ?_
        rintro _ w54 ⟨rfl, HS2⟩
        replace HS := (HS.sel (G := _ :: _ :: _ :: _ :: FR) [1, 1, 1] 0 rfl).from HS2
        refine RO.nil (blk_nx (nx ?_))
        refine ex_region ?_
        refine ro_lt (r_mv (v := iv v_46) rfl) rfl ?_
        refine ro_lt (r_addw rfl rfl) rfl ?_
        refine ro_lt (r_as (v := iv (wi (v_46 + 1))) rfl) rfl ?_
        refine RO.nil ?_
        obtain rfl := Option.some.inj h
        exact lq_go ⟨⟨rfl, rfl, rfl, rfl, rfl, trivial⟩, (HS.sel (G := _ :: _ :: _ :: _ :: FR) [3, 0, 0, 0] 0 rfl)⟩
      rintro s' w58 ⟨hs_, HS⟩
      rw [has_put hs_]; clear hs_
      refine (blk_nx (nx ?_))
      refine ex_region ?_
      refine ro_lt (r_mv (v := iv u_26) rfl) rfl ?_
      refine ro_lt (r_addw rfl rfl) rfl ?_
      refine ro_lt (r_as (v := iv (wi (u_26 + 1))) rfl) rfl ?_
      refine RO.nil ?_
      obtain rfl := Option.some.inj h
      exact lq_go ⟨⟨rfl, rfl, rfl, trivial⟩, (HS.sel (G := _ :: _ :: _ :: FR) [1, 1, 1] 1 rfl)⟩
    rintro s' w62 ⟨hs_, HS⟩
    rw [has_put hs_]; clear hs_
    refine (blk_nx (nx ?_))
    refine ex_region ?_
    refine ro_lt (r_mv (v := iv z_17) rfl) rfl ?_
    refine ro_lt (r_addw rfl rfl) rfl ?_
    refine ro_lt (r_as (v := iv (wi (z_17 + 1))) rfl) rfl ?_
    refine RO.nil ?_
    obtain rfl := Option.some.inj h
    exact lq_go ⟨⟨rfl, rfl, trivial⟩, HS⟩
  rintro s' w66 ⟨hs_, HS⟩
  rw [has_put hs_]; clear hs_
  obtain rfl := Option.some.inj h
  exact ret0 (.inl rfl) rfl ⟨rfl, HS⟩
theorem c_spec_Positions {w : World} {list : List Int} {v_list : Value} {n : Int} (r_list : Rd (.sl 3 (.int .i64)) (hp w) list [v_list]) {r : (List Int)} (h : F_spec_Positions list n = some r) : Calls Try.prog 115 [v_list, iv n].toArray w (P1 (.sl 3 (.int .i64)) w r) := by
  unfold F_spec_Positions at h
  have HS := St.init w
  have hs := Sub.refl (hp w)
  refine calls_ex (n := 25) Try.func115 rfl Try.ntmps115 (Nat.le_of_ble_eq_true rfl) ?_
  refine ex_seq ?_
  refine ex_region ?_
  refine ro_lt (r_as (v := .slice none 0 0) rfl) rfl ?_
  refine RO.nil (nx ?_)
  refine ex_seq ?_
  refine ex_region ?_
  refine ro_hy (o_bsv HS (cs := []) sl25 zz3 (vs := []) rfl rfl vc0 rfl rfl (by decide)) rfl ?_
  rintro _ w2 ⟨g1, rfl, hb, HS⟩
  replace HS := HS.lit0 (.int .i64)
  refine ro_lt (r_as (v := (.slice (some ⟨g1, 0, none⟩) 0 0)) rfl) rfl ?_
  refine RO.nil (nx ?_)
  refine ex_seq ?_
  refine ex_seq ?_
  refine ex_region ?_
  refine ro_lt (r_as (v := iv 0) rfl) rfl ?_
  refine RO.nil (nx ?_)
  replace h := bind_some h; obtain ⟨y29, e30, h⟩ := h
  refine ex_lbo (fun (st : (List Int) × Int) s' w' => ∃ v14 : Value, Has s' [(0, v_list), (1, iv n), (4, .slice none 0 0), (5, v14), (6, iv st.2)] ∧ St w (hp w) w' [.ow (.sl 3 (.int .i64)) st.1 [v14]]) e30 ⟨(.slice (some ⟨g1, 0, none⟩) 0 0), ⟨rfl, rfl, rfl, rfl, rfl, trivial⟩, HS⟩ ?_ ?_
  · rintro ⟨out_12, k_15⟩ c' s' w16 ⟨v14, hs_, HS⟩ h
    rw [has_put hs_]; clear hs_
    try dsimp only at HS
    replace h : F_spec_Positions_b1 list n out_12 k_15 = some c' := h
    unfold F_spec_Positions_b1 at h
    refine ex_seq ?_
    refine ex_seq ?_
    refine ex_region ?_
    refine ro_lt (r_mv (v := iv k_15) rfl) rfl ?_
    refine ro_lt (r_mv (v := v_list) rfl) rfl ?_
    have b17 := (r_list.sub HS.sub).big
    refine ro_lt (r_len (n := 1) (r_list.sub HS.sub) sl25 rfl) rfl ?_
    refine ro_lt (r_lss rfl rfl) rfl ?_
    refine RO.nil (nx ?_)
    replace h := ite_some h; rcases h with ⟨c18, h⟩ | ⟨c18, h⟩
    rotate_left
    · refine ex_if_f rfl (decide_eq_false c18) ?_
      refine ex_exit (tq_exit ?_)
      obtain rfl := Option.some.inj h
      exact lq_out ⟨v14, ⟨rfl, rfl, rfl, rfl, rfl, trivial⟩, HS⟩
    refine ex_if_t rfl (decide_eq_true c18) ?_
    refine ex_skip (nx ?_)
    refine ex_seq ?_
    refine ex_block ?_
    refine ex_seq ?_
    refine ex_region ?_
    refine ro_lt (r_mv (v := v_list) rfl) rfl ?_
    refine ro_lt (r_mv (v := iv k_15) rfl) rfl ?_
    replace h := grd_some h; obtain ⟨g19, h⟩ := h
    refine ro_lt (r_ia (r_list.sub HS.sub) sl25 g19.1 g19.2 rfl rfl) rfl ?_
    refine ro_lt (r_ld ((r_list.int g19.1 g19.2).sub HS.sub) sc3 rfl) rfl ?_
    refine ro_lt (r_mv (v := iv n) rfl) rfl ?_
    refine ro_lt (r_eql rfl rfl) rfl ?_
    refine RO.nil (nx ?_)
    replace h := ite_some h; rcases h with ⟨c20, h⟩ | ⟨c20, h⟩
    rotate_left
    · refine ex_if_f rfl (decide_eq_false c20) ?_
      refine ex_skip (blk_nx (nx ?_))
      refine ex_region ?_
      refine ro_lt (r_mv (v := iv k_15) rfl) rfl ?_
      refine ro_lt (r_addw rfl rfl) rfl ?_
      refine ro_lt (r_as (v := iv (wi (k_15 + 1))) rfl) rfl ?_
      refine RO.nil ?_
      obtain rfl := Option.some.inj h
      exact lq_go ⟨v14, ⟨rfl, rfl, rfl, rfl, rfl, trivial⟩, HS⟩
    refine ex_if_t rfl (decide_eq_true c20) ?_
    refine ex_region ?_
    refine ro_lt (r_mv (v := v14) rfl) rfl ?_
    refine ro_lt (r_mv (v := iv k_15) rfl) rfl ?_
    refine ro_hy (o_bsv HS (cs := [iv k_15]) sl25 zz3 (vs := [iv k_15]) rfl rfl (vc rfl vc0) rfl rfl (by decide)) rfl ?_
    rintro _ w22 ⟨g21, rfl, hb, HS⟩
    replace h := grd_some h; obtain ⟨g24, h⟩ := h
    refine ro_hy (o_appf (HS.sel (G := [_, _]) [1] 0 rfl) rfl rfl rfl rfl sl25 zz3 g24) rfl ?_
    rintro v26 w27 ⟨HS, hk⟩
    refine ro_lt (r_as (v := v26) rfl) rfl ?_
    refine RO.nil (blk_nx (nx ?_))
    refine ex_region ?_
    refine ro_lt (r_mv (v := iv k_15) rfl) rfl ?_
    refine ro_lt (r_addw rfl rfl) rfl ?_
    refine ro_lt (r_as (v := iv (wi (k_15 + 1))) rfl) rfl ?_
    refine RO.nil ?_
    obtain rfl := Option.some.inj h
    exact lq_go ⟨v26, ⟨rfl, rfl, rfl, rfl, rfl, trivial⟩, HS⟩
  rintro s' w31 ⟨v14, hs_, HS⟩
  rw [has_put hs_]; clear hs_
  refine (nx ?_)
  refine ex_seq ?_
  refine ex_region ?_
  refine ro_lt (r_mv (v := v14) rfl) rfl ?_
  refine ro_lt (r_as (v := v14) rfl) rfl ?_
  refine RO.nil (nx ?_)
  obtain rfl := Option.some.inj h
  refine ex_ret ?_
  exact ret1 (.inr rfl) rfl rfl (P1.of HS hs)
end Go.Proofs.Ytpfibofoeblapaa
