/- Walks, printed. -/
import Derived.Test.YtpfibofoeblapaaLb
import Derived.Test.YtpfibofoeblapaaHt
import Derived.Test.YtpfibofoeblapaaHand
import Derived.Test.YtpfibofoeblapaaQ
import Derived.Test.YtpfibofoeblapaaSt
import Derived.Test.YtpfibofoeblapaaPB
import Derived.Test.YtpfibofoeblapaaKB
set_option linter.unusedVariables false
set_option linter.unusedSimpArgs false
namespace Go.Proofs.Ytpfibofoeblapaa
open Go Go.RowKit
set_option maxRecDepth 20000
set_option maxHeartbeats 4000000
theorem c_laws_szIntS {w : World} {a : List Int} {v_a : Value} {left : Int} (r_a : Rd (.sl 3 (.int .i64)) (hp w) a [v_a]) {r : Int} (h : F_laws_szIntS a left = some r) : Calls Try.prog 69 [v_a, iv left].toArray w (P1 (.int .i64) w r) := by
  unfold F_laws_szIntS at h
  have HS := St.init w
  have hs := Sub.refl (hp w)
  refine calls_ex (n := 12) Try.func69 rfl Try.ntmps69 (Nat.le_of_ble_eq_true rfl) ?_
  refine ex_seq ?_
  refine ex_region ?_
  refine ro_lt (r_as (v := iv 0) rfl) rfl ?_
  refine RO.nil (nx ?_)
  refine ex_seq ?_
  refine ex_region ?_
  refine ro_lt (r_mv (v := iv left) rfl) rfl ?_
  refine ro_lt (r_mv (v := v_a) rfl) rfl ?_
  have b1 := (r_a.sub HS.sub).big
  refine ro_lt (r_len (n := 1) (r_a.sub HS.sub) sl25 rfl) rfl ?_
  refine ro_lt (r_subw rfl rfl) rfl ?_
  refine ro_lt (r_as (v := iv (wi (left - (a.length : Int)))) rfl) rfl ?_
  refine RO.nil (nx ?_)
  refine ex_seq ?_
  refine ex_seq ?_
  refine ex_region ?_
  refine ro_lt (r_mv (v := iv (wi (left - (a.length : Int)))) rfl) rfl ?_
  refine ro_lt (r_lss rfl rfl) rfl ?_
  refine RO.nil (nx ?_)
  replace h := ite_some h; rcases h with ⟨c2, h⟩ | ⟨c2, h⟩
  · refine ex_if_t rfl (decide_eq_true c2) ?_
    refine ex_seq ?_
    refine ex_region ?_
    refine ro_lt (r_as (v := iv ((-1))) rfl) rfl ?_
    refine RO.nil (nx ?_)
    obtain rfl := Option.some.inj h
    refine ex_ret (tq_ret ?_)
    exact ret1 (.inr rfl) rfl rfl (P1.of_flat HS hs rfl)
  refine ex_if_f rfl (decide_eq_false c2) ?_
  refine ex_skip (nx ?_)
  refine ex_seq ?_
  refine ex_region ?_
  refine ro_lt (r_mv (v := iv (wi (left - (a.length : Int)))) rfl) rfl ?_
  refine ro_lt (r_as (v := iv (wi (left - (a.length : Int)))) rfl) rfl ?_
  refine RO.nil (nx ?_)
  obtain rfl := Option.some.inj h
  refine ex_ret ?_
  exact ret1 (.inr rfl) rfl rfl (P1.of_flat HS hs rfl)
theorem c_laws_szNode {w : World} {a : List Int × List Int × Int × Int} {v_a0 : Value} {v_a1 : Value} {left : Int} (r_a0 : Rd (.sl 3 (.int .i64)) (hp w) a.1 [v_a0]) (r_a1 : Rd (.sl 3 (.int .i64)) (hp w) a.2.1 [v_a1]) {r : Int} (h : F_laws_szNode a left = some r) : Calls Try.prog 118 [.agg #[v_a0, v_a1, iv a.2.2.1, iv a.2.2.2], iv left].toArray w (P1 (.int .i64) w r) := by
  unfold F_laws_szNode at h
  have HS := St.init w
  have hs := Sub.refl (hp w)
  refine calls_ex (n := 18) Try.func118 rfl Try.ntmps118 (Nat.le_of_ble_eq_true rfl) ?_
  refine ex_seq ?_
  refine ex_region ?_
  refine ro_hy (o_boxz HS (cs := [v_a0, v_a1, iv a.2.2.1, iv a.2.2.2]) rfl rfl) rfl ?_
  rintro _ w2 ⟨g1, H5, rfl, q3, l4, hb, HS⟩
  replace r_a0 := r_a0.sub q3
  replace r_a1 := r_a1.sub q3
  replace hs := hs.trans q3
  refine ro_lt (r_as (v := iv 0) rfl) rfl ?_
  refine RO.nil (nx ?_)
  refine ex_seq ?_
  refine ex_region ?_
  refine ro_lt (r_fa (l4.sub HS.sub) fd123_0 rfl) rfl ?_
  refine ro_lt (r_ld ((l4.seg 0 1).sub HS.sub) sc25 rfl) rfl ?_
  refine ro_lt (r_mv (v := iv left) rfl) rfl ?_
  replace h := bind_some h; obtain ⟨y6, e7, h⟩ := h
  refine ro_hy (o_cf (vs := [v_a0, iv left]) HS rfl (c_laws_szIntS (r_a0.sub HS.sub) e7) cf69 rfl) rfl ?_
  rintro _ w8 ⟨rfl, hb, HS⟩
  refine ro_lt (r_as (v := iv y6) rfl) rfl ?_
  refine RO.nil (nx ?_)
  refine ex_seq ?_
  refine ex_seq ?_
  refine ex_region ?_
  refine ro_lt (r_mv (v := iv y6) rfl) rfl ?_
  refine ro_lt (r_lss rfl rfl) rfl ?_
  refine RO.nil (nx ?_)
  replace h := ite_some h; rcases h with ⟨c9, h⟩ | ⟨c9, h⟩
  · refine ex_if_t rfl (decide_eq_true c9) ?_
    refine ex_seq ?_
    refine ex_region ?_
    refine ro_lt (r_as (v := iv ((-1))) rfl) rfl ?_
    refine RO.nil (nx ?_)
    obtain rfl := Option.some.inj h
    refine ex_ret (tq_ret ?_)
    exact ret1 (.inr rfl) rfl rfl (P1.of_flat HS hs rfl)
  refine ex_if_f rfl (decide_eq_false c9) ?_
  refine ex_skip (nx ?_)
  refine ex_seq ?_
  refine ex_region ?_
  refine ro_lt (r_fa (l4.sub HS.sub) fd123_1 rfl) rfl ?_
  refine ro_lt (r_ld ((l4.seg 1 1).sub HS.sub) sc25 rfl) rfl ?_
  refine ro_lt (r_mv (v := iv y6) rfl) rfl ?_
  replace h := bind_some h; obtain ⟨y10, e11, h⟩ := h
  refine ro_hy (o_cf (vs := [v_a1, iv y6]) HS rfl (c_laws_szIntS (r_a1.sub HS.sub) e11) cf69 rfl) rfl ?_
  rintro _ w12 ⟨rfl, hb, HS⟩
  refine ro_lt (r_as (v := iv y10) rfl) rfl ?_
  refine RO.nil (nx ?_)
  refine ex_seq ?_
  refine ex_seq ?_
  refine ex_region ?_
  refine ro_lt (r_mv (v := iv y10) rfl) rfl ?_
  refine ro_lt (r_lss rfl rfl) rfl ?_
  refine RO.nil (nx ?_)
  replace h := ite_some h; rcases h with ⟨c13, h⟩ | ⟨c13, h⟩
  · refine ex_if_t rfl (decide_eq_true c13) ?_
    refine ex_seq ?_
    refine ex_region ?_
    refine ro_lt (r_as (v := iv ((-1))) rfl) rfl ?_
    refine RO.nil (nx ?_)
    obtain rfl := Option.some.inj h
    refine ex_ret (tq_ret ?_)
    exact ret1 (.inr rfl) rfl rfl (P1.of_flat HS hs rfl)
  refine ex_if_f rfl (decide_eq_false c13) ?_
  refine ex_skip (nx ?_)
  refine ex_seq ?_
  refine ex_region ?_
  refine ro_lt (r_mv (v := iv y10) rfl) rfl ?_
  refine ro_lt (r_as (v := iv y10) rfl) rfl ?_
  refine RO.nil (nx ?_)
  obtain rfl := Option.some.inj h
  refine ex_ret ?_
  exact ret1 (.inr rfl) rfl rfl (P1.of_flat HS hs rfl)
theorem c_laws_szNodeS {w : World} {a : List (List Int × List Int × Int × Int)} {v_a : Value} {left : Int} (r_a : Rd (.sl 123 (.prod (.sl 3 (.int .i64)) (.prod (.sl 3 (.int .i64)) (.prod (.int .i64) (.int .i64))))) (hp w) a [v_a]) {r : Int} (h : F_laws_szNodeS a left = some r) : Calls Try.prog 68 [v_a, iv left].toArray w (P1 (.int .i64) w r) := by
  unfold F_laws_szNodeS at h
  have HS := St.init w
  have hs := Sub.refl (hp w)
  refine calls_ex (n := 27) Try.func68 rfl Try.ntmps68 (Nat.le_of_ble_eq_true rfl) ?_
  refine ex_seq ?_
  refine ex_region ?_
  refine ro_lt (r_as (v := iv 0) rfl) rfl ?_
  refine RO.nil (nx ?_)
  refine ex_seq ?_
  refine ex_region ?_
  refine ro_lt (r_mv (v := iv left) rfl) rfl ?_
  refine ro_lt (r_mv (v := v_a) rfl) rfl ?_
  have b1 := (r_a.sub HS.sub).big
  refine ro_lt (r_len (n := 4) (r_a.sub HS.sub) sl41 rfl) rfl ?_
  refine ro_lt (r_subw rfl rfl) rfl ?_
  refine ro_lt (r_as (v := iv (wi (left - (a.length : Int)))) rfl) rfl ?_
  refine RO.nil (nx ?_)
  refine ex_seq ?_
  refine ex_seq ?_
  refine ex_region ?_
  refine ro_lt (r_mv (v := iv (wi (left - (a.length : Int)))) rfl) rfl ?_
  refine ro_lt (r_lss rfl rfl) rfl ?_
  refine RO.nil (nx ?_)
  replace h := ite_some h; rcases h with ⟨c2, h⟩ | ⟨c2, h⟩
  · refine ex_if_t rfl (decide_eq_true c2) ?_
    refine ex_seq ?_
    refine ex_region ?_
    refine ro_lt (r_as (v := iv ((-1))) rfl) rfl ?_
    refine RO.nil (nx ?_)
    obtain rfl := Option.some.inj h
    refine ex_ret (tq_ret ?_)
    exact ret1 (.inr rfl) rfl rfl (P1.of_flat HS hs rfl)
  refine ex_if_f rfl (decide_eq_false c2) ?_
  refine ex_skip (nx ?_)
  refine ex_seq ?_
  refine ex_seq ?_
  refine ex_region ?_
  refine ro_lt (r_as (v := iv 0) rfl) rfl ?_
  refine RO.nil (nx ?_)
  replace h := bind_some h; obtain ⟨y24, e25, h⟩ := h
  refine ex_lbr (fun (st : Int × Int) s' w' => Has s' [(0, v_a), (1, iv st.1), (4, iv 0), (5, iv st.2)] ∧ St w (hp w) w' []) (fun r s' w' => FQ Try.prog Try.f68 27 (P1 (.int .i64) w r) .ret s' w') e25 ⟨⟨rfl, rfl, rfl, rfl, trivial⟩, HS⟩ ?_ ?_
  · rintro ⟨left_9, i_10⟩ c' s' w11 ⟨hs_, HS⟩ h
    rw [has_put hs_]; clear hs_
    try dsimp only at HS
    replace h : F_laws_szNodeS_b1 a left_9 i_10 = some c' := h
    unfold F_laws_szNodeS_b1 at h
    refine ex_seq ?_
    refine ex_seq ?_
    refine ex_region ?_
    refine ro_lt (r_mv (v := iv i_10) rfl) rfl ?_
    refine ro_lt (r_mv (v := v_a) rfl) rfl ?_
    refine ro_lt (r_len (n := 4) (r_a.sub HS.sub) sl41 rfl) rfl ?_
    refine ro_lt (r_lss rfl rfl) rfl ?_
    refine RO.nil (nx ?_)
    replace h := ite_some h; rcases h with ⟨c12, h⟩ | ⟨c12, h⟩
    rotate_left
    · refine ex_if_f rfl (decide_eq_false c12) ?_
      refine ex_exit (tq_exit ?_)
      obtain rfl := Option.some.inj h
      exact lq_out ⟨⟨rfl, rfl, rfl, rfl, trivial⟩, HS⟩
    refine ex_if_t rfl (decide_eq_true c12) ?_
    refine ex_skip (nx ?_)
    refine ex_seq ?_
    refine ex_block ?_
    refine ex_seq ?_
    refine ex_region ?_
    refine ro_lt (r_mv (v := v_a) rfl) rfl ?_
    refine ro_lt (r_mv (v := iv i_10) rfl) rfl ?_
    replace h := grd_some h; obtain ⟨g13, h⟩ := h
    obtain ⟨_, q14, l15⟩ := r_a.idx g13.1 g13.2
    obtain ⟨v16, v18, rfl, r17, r19⟩ := rd_K123 q14
    refine ro_lt (r_ia (r_a.sub HS.sub) sl41 g13.1 g13.2 rfl rfl) rfl ?_
    refine ro_lt (r_lda (l15.sub HS.sub) ag123 rfl rfl) rfl ?_
    refine ro_lt (r_mv (v := iv left_9) rfl) rfl ?_
    replace h := bind_some h; obtain ⟨y20, e21, h⟩ := h
    refine ro_hy (o_cf (vs := [.agg #[v16, v18, iv ((((a.getD i_10.toNat (([] : List Int), ([] : List Int), 0, 0)).2).2).1), iv ((((a.getD i_10.toNat (([] : List Int), ([] : List Int), 0, 0)).2).2).2)], iv left_9]) HS rfl (c_laws_szNode (r17.sub HS.sub) (r19.sub HS.sub) e21) cf118 rfl) rfl ?_
    rintro _ w22 ⟨rfl, hb, HS⟩
    refine ro_lt (r_as (v := iv y20) rfl) rfl ?_
    refine RO.nil (nx ?_)
    refine ex_seq ?_
    refine ex_region ?_
    refine ro_lt (r_mv (v := iv y20) rfl) rfl ?_
    refine ro_lt (r_lss rfl rfl) rfl ?_
    refine RO.nil (nx ?_)
    replace h := ite_some h; rcases h with ⟨c23, h⟩ | ⟨c23, h⟩
    · refine ex_if_t rfl (decide_eq_true c23) ?_
      refine ex_seq ?_
      refine ex_region ?_
      refine ro_lt (r_as (v := iv ((-1))) rfl) rfl ?_
      refine RO.nil (nx ?_)
      obtain rfl := Option.some.inj h
      refine ex_ret (blk_ret (tq_ret (lq_ret ?_)))
      exact ret1 (.inr rfl) rfl rfl (P1.of_flat HS hs rfl)
    refine ex_if_f rfl (decide_eq_false c23) ?_
    refine ex_skip (blk_nx (nx ?_))
    refine ex_region ?_
    refine ro_lt (r_mv (v := iv i_10) rfl) rfl ?_
    refine ro_lt (r_addw rfl rfl) rfl ?_
    refine ro_lt (r_as (v := iv (wi (i_10 + 1))) rfl) rfl ?_
    refine RO.nil ?_
    obtain rfl := Option.some.inj h
    exact lq_go ⟨⟨rfl, rfl, rfl, rfl, trivial⟩, HS⟩
  rcases y24 with r28 | y24
  · intro s' w' hR
    obtain rfl := Option.some.inj h
    exact (tq_ret hR)
  rintro s' w26 ⟨hs_, HS⟩
  rw [has_put hs_]; clear hs_
  refine (nx ?_)
  refine ex_seq ?_
  refine ex_region ?_
  refine ro_lt (r_mv (v := iv y24.1) rfl) rfl ?_
  refine ro_lt (r_as (v := iv y24.1) rfl) rfl ?_
  refine RO.nil (nx ?_)
  obtain rfl := Option.some.inj h
  refine ex_ret ?_
  exact ret1 (.inr rfl) rfl rfl (P1.of_flat HS hs rfl)
theorem c_laws_szStructure {w : World} {a : (List (List Int × List Int × Int × Int)) × List Int} {v_a0 : Value} {v_a1 : Value} {left : Int} (r_a0 : Rd (.sl 123 (.prod (.sl 3 (.int .i64)) (.prod (.sl 3 (.int .i64)) (.prod (.int .i64) (.int .i64))))) (hp w) a.1 [v_a0]) (r_a1 : Rd (.sl 3 (.int .i64)) (hp w) a.2 [v_a1]) {r : Int} (h : F_laws_szStructure a left = some r) : Calls Try.prog 22 [.agg #[v_a0, v_a1], iv left].toArray w (P1 (.int .i64) w r) := by
  unfold F_laws_szStructure at h
  have HS := St.init w
  have hs := Sub.refl (hp w)
  refine calls_ex (n := 18) Try.func22 rfl Try.ntmps22 (Nat.le_of_ble_eq_true rfl) ?_
  refine ex_seq ?_
  refine ex_region ?_
  refine ro_hy (o_boxz HS (cs := [v_a0, v_a1]) rfl rfl) rfl ?_
  rintro _ w2 ⟨g1, H5, rfl, q3, l4, hb, HS⟩
  replace r_a0 := r_a0.sub q3
  replace r_a1 := r_a1.sub q3
  replace hs := hs.trans q3
  refine ro_lt (r_as (v := iv 0) rfl) rfl ?_
  refine RO.nil (nx ?_)
  refine ex_seq ?_
  refine ex_region ?_
  refine ro_lt (r_fa (l4.sub HS.sub) fd43_0 rfl) rfl ?_
  refine ro_lt (r_ld ((l4.seg 0 1).sub HS.sub) sc41 rfl) rfl ?_
  refine ro_lt (r_mv (v := iv left) rfl) rfl ?_
  replace h := bind_some h; obtain ⟨y6, e7, h⟩ := h
  refine ro_hy (o_cf (vs := [v_a0, iv left]) HS rfl (c_laws_szNodeS (r_a0.sub HS.sub) e7) cf68 rfl) rfl ?_
  rintro _ w8 ⟨rfl, hb, HS⟩
  refine ro_lt (r_as (v := iv y6) rfl) rfl ?_
  refine RO.nil (nx ?_)
  refine ex_seq ?_
  refine ex_seq ?_
  refine ex_region ?_
  refine ro_lt (r_mv (v := iv y6) rfl) rfl ?_
  refine ro_lt (r_lss rfl rfl) rfl ?_
  refine RO.nil (nx ?_)
  replace h := ite_some h; rcases h with ⟨c9, h⟩ | ⟨c9, h⟩
  · refine ex_if_t rfl (decide_eq_true c9) ?_
    refine ex_seq ?_
    refine ex_region ?_
    refine ro_lt (r_as (v := iv ((-1))) rfl) rfl ?_
    refine RO.nil (nx ?_)
    obtain rfl := Option.some.inj h
    refine ex_ret (tq_ret ?_)
    exact ret1 (.inr rfl) rfl rfl (P1.of_flat HS hs rfl)
  refine ex_if_f rfl (decide_eq_false c9) ?_
  refine ex_skip (nx ?_)
  refine ex_seq ?_
  refine ex_region ?_
  refine ro_lt (r_fa (l4.sub HS.sub) fd43_1 rfl) rfl ?_
  refine ro_lt (r_ld ((l4.seg 1 1).sub HS.sub) sc25 rfl) rfl ?_
  refine ro_lt (r_mv (v := iv y6) rfl) rfl ?_
  replace h := bind_some h; obtain ⟨y10, e11, h⟩ := h
  refine ro_hy (o_cf (vs := [v_a1, iv y6]) HS rfl (c_laws_szIntS (r_a1.sub HS.sub) e11) cf69 rfl) rfl ?_
  rintro _ w12 ⟨rfl, hb, HS⟩
  refine ro_lt (r_as (v := iv y10) rfl) rfl ?_
  refine RO.nil (nx ?_)
  refine ex_seq ?_
  refine ex_seq ?_
  refine ex_region ?_
  refine ro_lt (r_mv (v := iv y10) rfl) rfl ?_
  refine ro_lt (r_lss rfl rfl) rfl ?_
  refine RO.nil (nx ?_)
  replace h := ite_some h; rcases h with ⟨c13, h⟩ | ⟨c13, h⟩
  · refine ex_if_t rfl (decide_eq_true c13) ?_
    refine ex_seq ?_
    refine ex_region ?_
    refine ro_lt (r_as (v := iv ((-1))) rfl) rfl ?_
    refine RO.nil (nx ?_)
    obtain rfl := Option.some.inj h
    refine ex_ret (tq_ret ?_)
    exact ret1 (.inr rfl) rfl rfl (P1.of_flat HS hs rfl)
  refine ex_if_f rfl (decide_eq_false c13) ?_
  refine ex_skip (nx ?_)
  refine ex_seq ?_
  refine ex_region ?_
  refine ro_lt (r_mv (v := iv y10) rfl) rfl ?_
  refine ro_lt (r_as (v := iv y10) rfl) rfl ?_
  refine RO.nil (nx ?_)
  obtain rfl := Option.some.inj h
  refine ex_ret ?_
  exact ret1 (.inr rfl) rfl rfl (P1.of_flat HS hs rfl)
theorem c_laws_toIntS {w : World} {a : List Int} {v_a : Value} (r_a : Rd (.sl 3 (.int .i64)) (hp w) a [v_a]) {r : (List Int)} (h : F_laws_toIntS a = some r) : Calls Try.prog 71 [v_a].toArray w (P1 (.sl 3 (.int .i64)) w r) := by
  unfold F_laws_toIntS at h
  have HS := St.init w
  have hs := Sub.refl (hp w)
  refine calls_ex (n := 22) Try.func71 rfl Try.ntmps71 (Nat.le_of_ble_eq_true rfl) ?_
  refine ex_seq ?_
  refine ex_region ?_
  refine ro_lt (r_as (v := .slice none 0 0) rfl) rfl ?_
  refine RO.nil (nx ?_)
  refine ex_seq ?_
  refine ex_region ?_
  refine ro_lt (r_mv (v := v_a) rfl) rfl ?_
  have b1 := (r_a.sub HS.sub).big
  refine ro_lt (r_len (n := 1) (r_a.sub HS.sub) sl25 rfl) rfl ?_
  replace h := grd_some h; obtain ⟨g2, h⟩ := h
  refine ro_hy (o_mks (t := (.int .i64)) (n := ((a.length : Int)).toNat) HS (by rw [Int.toNat_of_nonneg (by omega)]; rfl) (by rw [Int.toNat_of_nonneg (by omega)]; rfl) sl25 mz3 (by unfold lim; omega)) rfl ?_
  rintro v3 w4 ⟨hb, HS⟩
  refine ro_lt (r_as (v := v3) rfl) rfl ?_
  refine RO.nil (nx ?_)
  refine ex_seq ?_
  refine ex_seq ?_
  refine ex_region ?_
  refine ro_lt (r_as (v := iv 0) rfl) rfl ?_
  refine RO.nil (nx ?_)
  replace h := bind_some h; obtain ⟨y24, e25, h⟩ := h
  refine ex_lbo (fun (st : (List Int) × Int) s' w' => ∃ v16 : Value, Has s' [(0, v_a), (2, .slice none 0 0), (3, v16), (4, iv st.2)] ∧ St w (hp w) w' [.ow (.sl 3 (.int .i64)) st.1 [v16]]) e25 ⟨v3, ⟨rfl, rfl, rfl, rfl, trivial⟩, HS⟩ ?_ ?_
  · rintro ⟨out_14, i_17⟩ c' s' w18 ⟨v16, hs_, HS⟩ h
    rw [has_put hs_]; clear hs_
    try dsimp only at HS
    replace h : F_laws_toIntS_b1 a out_14 i_17 = some c' := h
    unfold F_laws_toIntS_b1 at h
    refine ex_seq ?_
    refine ex_seq ?_
    refine ex_region ?_
    refine ro_lt (r_mv (v := iv i_17) rfl) rfl ?_
    refine ro_lt (r_mv (v := v_a) rfl) rfl ?_
    refine ro_lt (r_len (n := 1) (r_a.sub HS.sub) sl25 rfl) rfl ?_
    refine ro_lt (r_lss rfl rfl) rfl ?_
    refine RO.nil (nx ?_)
    replace h := ite_some h; rcases h with ⟨c19, h⟩ | ⟨c19, h⟩
    rotate_left
    · refine ex_if_f rfl (decide_eq_false c19) ?_
      refine ex_exit (tq_exit ?_)
      obtain rfl := Option.some.inj h
      exact lq_out ⟨v16, ⟨rfl, rfl, rfl, rfl, trivial⟩, HS⟩
    refine ex_if_t rfl (decide_eq_true c19) ?_
    refine ex_skip (nx ?_)
    refine ex_seq ?_
    refine ex_block ?_
    refine ex_region ?_
    refine ro_lt (r_mv (v := v16) rfl) rfl ?_
    refine ro_lt (r_mv (v := iv i_17) rfl) rfl ?_
    refine ro_lt (r_mv (v := v_a) rfl) rfl ?_
    refine ro_lt (r_mv (v := iv i_17) rfl) rfl ?_
    replace h := grd_some h; obtain ⟨g20, h⟩ := h
    refine ro_lt (r_ia (r_a.sub HS.sub) sl25 g20.1 g20.2 rfl rfl) rfl ?_
    refine ro_lt (r_ld ((r_a.int g20.1 g20.2).sub HS.sub) sc3 rfl) rfl ?_
    replace h := grd_some h; obtain ⟨g21, h⟩ := h
    refine ro_lt (r_ia (HS.rd 0 rfl) sl25 g21.1 g21.2 rfl rfl) rfl ?_
    refine ro_hy (o_set (x' := a.getD i_17.toNat 0) HS rfl g21.1 g21.2 st3 rfl rfl) rfl ?_
    rintro _ w22 ⟨rfl, hk, HS⟩
    refine RO.nil (blk_nx (nx ?_))
    refine ex_region ?_
    refine ro_lt (r_mv (v := iv i_17) rfl) rfl ?_
    refine ro_lt (r_addw rfl rfl) rfl ?_
    refine ro_lt (r_as (v := iv (wi (i_17 + 1))) rfl) rfl ?_
    refine RO.nil ?_
    obtain rfl := Option.some.inj h
    exact lq_go ⟨v16, ⟨rfl, rfl, rfl, rfl, trivial⟩, HS⟩
  rintro s' w26 ⟨v16, hs_, HS⟩
  rw [has_put hs_]; clear hs_
  refine (nx ?_)
  refine ex_seq ?_
  refine ex_region ?_
  refine ro_lt (r_mv (v := v16) rfl) rfl ?_
  refine ro_lt (r_as (v := v16) rfl) rfl ?_
  refine RO.nil (nx ?_)
  obtain rfl := Option.some.inj h
  refine ex_ret ?_
  exact ret1 (.inr rfl) rfl rfl (P1.of HS hs)
theorem c_laws_toNode {w : World} {a : List Int × List Int × Int × Int} {v_a0 : Value} {v_a1 : Value} (r_a0 : Rd (.sl 3 (.int .i64)) (hp w) a.1 [v_a0]) (r_a1 : Rd (.sl 3 (.int .i64)) (hp w) a.2.1 [v_a1]) {r : (List Int × List Int × Int × Int)} (h : F_laws_toNode a = some r) : Calls Try.prog 119 [.agg #[v_a0, v_a1, iv a.2.2.1, iv a.2.2.2]].toArray w (P1 (.prod (.sl 3 (.int .i64)) (.prod (.sl 3 (.int .i64)) (.prod (.int .i64) (.int .i64)))) w r) := by
  unfold F_laws_toNode at h
  have HS := St.init w
  have hs := Sub.refl (hp w)
  refine calls_ex (n := 19) Try.func119 rfl Try.ntmps119 (Nat.le_of_ble_eq_true rfl) ?_
  refine ex_seq ?_
  refine ex_region ?_
  refine ro_hy (o_boxz HS (cs := [v_a0, v_a1, iv a.2.2.1, iv a.2.2.2]) rfl rfl) rfl ?_
  rintro _ w2 ⟨g1, H5, rfl, q3, l4, hb, HS⟩
  replace r_a0 := r_a0.sub q3
  replace r_a1 := r_a1.sub q3
  replace hs := hs.trans q3
  refine ro_hy (o_alloc HS (cs := [.slice none 0 0, .slice none 0 0, iv 0, iv 0]) ze72 rfl) rfl ?_
  rintro _ w7 ⟨g6, rfl, hb, HS⟩
  refine RO.nil (nx ?_)
  refine ex_seq ?_
  refine ex_region ?_
  refine ro_hy (o_alloc HS (cs := [.slice none 0 0, .slice none 0 0, iv 0, iv 0]) ze72 rfl) rfl ?_
  rintro _ w10 ⟨g9, rfl, hb, HS⟩
  refine RO.nil (nx ?_)
  refine ex_seq ?_
  refine ex_region ?_
  refine ro_lt (r_fa (l4.sub HS.sub) fd123_0 rfl) rfl ?_
  refine ro_lt (r_ld ((l4.seg 0 1).sub HS.sub) sc25 rfl) rfl ?_
  replace h := bind_some h; obtain ⟨y12, e13, h⟩ := h
  refine ro_hy (o_c1 (vs := [v_a0]) HS (c_laws_toIntS (r_a0.sub HS.sub) e13) cf71 rfl) rfl ?_
  rintro _ w14 ⟨cs15, rfl, hb, HS⟩
  obtain ⟨v17, rfl, -⟩ := (HS.rd 0 rfl).one
  refine ro_lt (r_fa (HS.boxAt 1 rfl) fd72_0 rfl) rfl ?_
  refine ro_hy (o_str (off := 0) (vs := [v17]) (l' := [v17, .slice none 0 0, iv 0, iv 0]) (HS.sel (G := [_, _, _]) [1] 0 rfl) rfl rfl (HS.rd 0 rfl).vc st25 rfl rfl (pl (HS.rd 0 rfl).pl pl0) rfl) rfl ?_
  rintro _ w18 ⟨rfl, hk, HS⟩
  refine RO.nil (nx ?_)
  refine ex_seq ?_
  refine ex_region ?_
  refine ro_lt (r_fa (l4.sub HS.sub) fd123_1 rfl) rfl ?_
  refine ro_lt (r_ld ((l4.seg 1 1).sub HS.sub) sc25 rfl) rfl ?_
  replace h := bind_some h; obtain ⟨y20, e21, h⟩ := h
  refine ro_hy (o_c1 (vs := [v_a1]) HS (c_laws_toIntS (r_a1.sub HS.sub) e21) cf71 rfl) rfl ?_
  rintro _ w22 ⟨cs23, rfl, hb, HS⟩
  obtain ⟨v25, rfl, -⟩ := (HS.rd 0 rfl).one
  refine ro_lt (r_fa (HS.boxAt 1 rfl) fd72_1 rfl) rfl ?_
  refine ro_hy (o_str (off := 1) (vs := [v25]) (l' := [v17, v25, iv 0, iv 0]) (HS.sel (G := [_, _, _, _]) [1] 0 rfl) rfl rfl (HS.rd 0 rfl).vc st25 rfl rfl (pl (HS.rd 0 rfl).pl pl0) rfl) rfl ?_
  rintro _ w26 ⟨rfl, hk, HS⟩
  refine RO.nil (nx ?_)
  refine ex_seq ?_
  refine ex_region ?_
  refine ro_lt (r_fa (l4.sub HS.sub) fd123_2 rfl) rfl ?_
  refine ro_lt (r_ld ((l4.seg 2 1).sub HS.sub) sc3 rfl) rfl ?_
  refine ro_lt (r_fa (HS.boxAt 0 rfl) fd72_2 rfl) rfl ?_
  refine ro_hy (o_str (off := 2) (vs := [iv a.2.2.1]) (l' := [v17, v25, iv a.2.2.1, iv 0]) HS rfl rfl rfl st3 rfl rfl (pl rfl pl0) rfl) rfl ?_
  rintro _ w28 ⟨rfl, hk, HS⟩
  refine RO.nil (nx ?_)
  refine ex_seq ?_
  refine ex_region ?_
  refine ro_lt (r_fa (l4.sub HS.sub) fd123_3 rfl) rfl ?_
  refine ro_lt (r_ld ((l4.seg 3 1).sub HS.sub) sc3 rfl) rfl ?_
  refine ro_lt (r_fa (HS.boxAt 0 rfl) fd72_3 rfl) rfl ?_
  refine ro_hy (o_str (off := 3) (vs := [iv a.2.2.2]) (l' := [v17, v25, iv a.2.2.1, iv a.2.2.2]) HS rfl rfl rfl st3 rfl rfl (pl rfl pl0) rfl) rfl ?_
  rintro _ w30 ⟨rfl, hk, HS⟩
  refine RO.nil (nx ?_)
  refine ex_seq ?_
  refine ex_region ?_
  refine ro_lt (r_lda (HS.boxAt 0 rfl) ag72 rfl rfl) rfl ?_
  refine ro_hy (o_str (off := 0) (vs := [v17, v25, iv a.2.2.1, iv a.2.2.2]) (l' := [v17, v25, iv a.2.2.1, iv a.2.2.2]) (HS.sel (G := [_, _, _, _]) [3] 0 rfl) rfl rfl rfl st72 rfl rfl (pl (HS.rd 2 rfl).pl (pl (HS.rd 1 rfl).pl (pl rfl (pl rfl pl0)))) rfl) rfl ?_
  rintro _ w32 ⟨rfl, hk, HS⟩
  refine RO.nil (nx ?_)
  obtain rfl := Option.some.inj h
  refine ex_ret ?_
  exact ret1 (.inr rfl) rfl (rv_box HS (i := 0) rfl rfl ag72 rfl) (P1.of (((((((HS.add (t := (.int .i64)) (x := a.2.2.2) rfl rfl).add (t := (.int .i64)) (x := a.2.2.1) rfl rfl).join).sel (G := [_, _, _, _, _]) [3] 0 rfl).join).sel (G := [_, _, _, _]) [3] 0 rfl).join) hs)
theorem c_laws_toNodeS {w : World} {a : List (List Int × List Int × Int × Int)} {v_a : Value} (r_a : Rd (.sl 123 (.prod (.sl 3 (.int .i64)) (.prod (.sl 3 (.int .i64)) (.prod (.int .i64) (.int .i64))))) (hp w) a [v_a]) {r : (List (List Int × List Int × Int × Int))} (h : F_laws_toNodeS a = some r) : Calls Try.prog 70 [v_a].toArray w (P1 (.sl 72 (.prod (.sl 3 (.int .i64)) (.prod (.sl 3 (.int .i64)) (.prod (.int .i64) (.int .i64))))) w r) := by
  unfold F_laws_toNodeS at h
  have HS := St.init w
  have hs := Sub.refl (hp w)
  refine calls_ex (n := 23) Try.func70 rfl Try.ntmps70 (Nat.le_of_ble_eq_true rfl) ?_
  refine ex_seq ?_
  refine ex_region ?_
  refine ro_lt (r_as (v := .slice none 0 0) rfl) rfl ?_
  refine RO.nil (nx ?_)
  refine ex_seq ?_
  refine ex_region ?_
  refine ro_lt (r_mv (v := v_a) rfl) rfl ?_
  have b1 := (r_a.sub HS.sub).big
  refine ro_lt (r_len (n := 4) (r_a.sub HS.sub) sl41 rfl) rfl ?_
  replace h := grd_some h; obtain ⟨g2, h⟩ := h
  refine ro_hy (o_mks (t := (.prod (.sl 3 (.int .i64)) (.prod (.sl 3 (.int .i64)) (.prod (.int .i64) (.int .i64))))) (n := ((a.length : Int)).toNat) HS (by rw [Int.toNat_of_nonneg (by omega)]; rfl) (by rw [Int.toNat_of_nonneg (by omega)]; rfl) sl24 mz72 (by unfold lim; omega)) rfl ?_
  rintro v3 w4 ⟨hb, HS⟩
  refine ro_lt (r_as (v := v3) rfl) rfl ?_
  refine RO.nil (nx ?_)
  refine ex_seq ?_
  refine ex_seq ?_
  refine ex_region ?_
  refine ro_lt (r_as (v := iv 0) rfl) rfl ?_
  refine RO.nil (nx ?_)
  replace h := bind_some h; obtain ⟨y49, e50, h⟩ := h
  refine ex_lbo (fun (st : (List (List Int × List Int × Int × Int)) × Int) s' w' => ∃ v16 : Value, Has s' [(0, v_a), (2, .slice none 0 0), (3, v16), (4, iv st.2)] ∧ St w (hp w) w' [.ow (.sl 72 (.prod (.sl 3 (.int .i64)) (.prod (.sl 3 (.int .i64)) (.prod (.int .i64) (.int .i64))))) st.1 [v16]]) e50 ⟨v3, ⟨rfl, rfl, rfl, rfl, trivial⟩, HS⟩ ?_ ?_
  · rintro ⟨out_14, i_17⟩ c' s' w18 ⟨v16, hs_, HS⟩ h
    rw [has_put hs_]; clear hs_
    try dsimp only at HS
    replace h : F_laws_toNodeS_b1 a out_14 i_17 = some c' := h
    unfold F_laws_toNodeS_b1 at h
    refine ex_seq ?_
    refine ex_seq ?_
    refine ex_region ?_
    refine ro_lt (r_mv (v := iv i_17) rfl) rfl ?_
    refine ro_lt (r_mv (v := v_a) rfl) rfl ?_
    refine ro_lt (r_len (n := 4) (r_a.sub HS.sub) sl41 rfl) rfl ?_
    refine ro_lt (r_lss rfl rfl) rfl ?_
    refine RO.nil (nx ?_)
    replace h := ite_some h; rcases h with ⟨c19, h⟩ | ⟨c19, h⟩
    rotate_left
    · refine ex_if_f rfl (decide_eq_false c19) ?_
      refine ex_exit (tq_exit ?_)
      obtain rfl := Option.some.inj h
      exact lq_out ⟨v16, ⟨rfl, rfl, rfl, rfl, trivial⟩, HS⟩
    refine ex_if_t rfl (decide_eq_true c19) ?_
    refine ex_skip (nx ?_)
    refine ex_seq ?_
    refine ex_block ?_
    refine ex_region ?_
    refine ro_lt (r_mv (v := v16) rfl) rfl ?_
    refine ro_lt (r_mv (v := iv i_17) rfl) rfl ?_
    refine ro_lt (r_mv (v := v_a) rfl) rfl ?_
    refine ro_lt (r_mv (v := iv i_17) rfl) rfl ?_
    replace h := grd_some h; obtain ⟨g20, h⟩ := h
    obtain ⟨_, q21, l22⟩ := r_a.idx g20.1 g20.2
    obtain ⟨v23, v25, rfl, r24, r26⟩ := rd_K123 q21
    refine ro_lt (r_ia (r_a.sub HS.sub) sl41 g20.1 g20.2 rfl rfl) rfl ?_
    refine ro_lt (r_lda (l22.sub HS.sub) ag123 rfl rfl) rfl ?_
    replace h := bind_some h; obtain ⟨y27, e28, h⟩ := h
    refine ro_hy (o_c1 (vs := [.agg #[v23, v25, iv ((((a.getD i_17.toNat (([] : List Int), ([] : List Int), 0, 0)).2).2).1), iv ((((a.getD i_17.toNat (([] : List Int), ([] : List Int), 0, 0)).2).2).2)]]) HS (c_laws_toNode (r24.sub HS.sub) (r26.sub HS.sub) e28) cf119 rfl) rfl ?_
    rintro _ w29 ⟨cs30, rfl, hb, HS⟩
    replace HS := st_K72 HS
    obtain ⟨v32, v34, rfl, HS⟩ := HS
    replace h := grd_some h; obtain ⟨g35, h⟩ := h
    obtain ⟨_, q36, l37⟩ := (HS.rd 2 rfl).idx g35.1 g35.2
    obtain ⟨v38, v40, rfl, r39, r41⟩ := rd_K72 q36
    refine ro_lt (r_ia (HS.rd 2 rfl) sl24 g35.1 g35.2 rfl rfl) rfl ?_
    refine ro_hy (o_seta (t := (.prod (.sl 3 (.int .i64)) (.prod (.sl 3 (.int .i64)) (.prod (.int .i64) (.int .i64))))) (x' := (y27.1, y27.2.1, y27.2.2.1, y27.2.2.2)) (cs := [v32, v34, iv y27.2.2.1, iv y27.2.2.2]) ((((((((HS.add (t := (.int .i64)) (x := y27.2.2.2) rfl rfl).add (t := (.int .i64)) (x := y27.2.2.1) rfl rfl).join).sel (G := [_, _, _, _]) [2] 0 rfl).join).sel (G := [_, _, _]) [1] 0 rfl).join).sel (G := [_, _]) [1] 0 rfl) g35.1 g35.2 st72 rfl rfl rfl) rfl ?_
    rintro _ w42 ⟨rfl, hk, HS⟩
    refine RO.nil (blk_nx (nx ?_))
    refine ex_region ?_
    refine ro_lt (r_mv (v := iv i_17) rfl) rfl ?_
    refine ro_lt (r_addw rfl rfl) rfl ?_
    refine ro_lt (r_as (v := iv (wi (i_17 + 1))) rfl) rfl ?_
    refine RO.nil ?_
    obtain rfl := Option.some.inj h
    exact lq_go ⟨v16, ⟨rfl, rfl, rfl, rfl, trivial⟩, HS⟩
  rintro s' w51 ⟨v16, hs_, HS⟩
  rw [has_put hs_]; clear hs_
  refine (nx ?_)
  refine ex_seq ?_
  refine ex_region ?_
  refine ro_lt (r_mv (v := v16) rfl) rfl ?_
  refine ro_lt (r_as (v := v16) rfl) rfl ?_
  refine RO.nil (nx ?_)
  obtain rfl := Option.some.inj h
  refine ex_ret ?_
  exact ret1 (.inr rfl) rfl rfl (P1.of HS hs)
theorem c_laws_toStructure {w : World} {a : (List (List Int × List Int × Int × Int)) × List Int} {v_a0 : Value} {v_a1 : Value} (r_a0 : Rd (.sl 123 (.prod (.sl 3 (.int .i64)) (.prod (.sl 3 (.int .i64)) (.prod (.int .i64) (.int .i64))))) (hp w) a.1 [v_a0]) (r_a1 : Rd (.sl 3 (.int .i64)) (hp w) a.2 [v_a1]) {r : ((List (List Int × List Int × Int × Int)) × List Int)} (h : F_laws_toStructure a = some r) : Calls Try.prog 24 [.agg #[v_a0, v_a1]].toArray w (P1 (.prod (.sl 72 (.prod (.sl 3 (.int .i64)) (.prod (.sl 3 (.int .i64)) (.prod (.int .i64) (.int .i64))))) (.sl 3 (.int .i64))) w r) := by
  unfold F_laws_toStructure at h
  have HS := St.init w
  have hs := Sub.refl (hp w)
  refine calls_ex (n := 13) Try.func24 rfl Try.ntmps24 (Nat.le_of_ble_eq_true rfl) ?_
  refine ex_seq ?_
  refine ex_region ?_
  refine ro_hy (o_boxz HS (cs := [v_a0, v_a1]) rfl rfl) rfl ?_
  rintro _ w2 ⟨g1, H5, rfl, q3, l4, hb, HS⟩
  replace r_a0 := r_a0.sub q3
  replace r_a1 := r_a1.sub q3
  replace hs := hs.trans q3
  refine ro_hy (o_alloc HS (cs := [.slice none 0 0, .slice none 0 0]) ze27 rfl) rfl ?_
  rintro _ w7 ⟨g6, rfl, hb, HS⟩
  refine RO.nil (nx ?_)
  refine ex_seq ?_
  refine ex_region ?_
  refine ro_hy (o_alloc HS (cs := [.slice none 0 0, .slice none 0 0]) ze27 rfl) rfl ?_
  rintro _ w10 ⟨g9, rfl, hb, HS⟩
  refine RO.nil (nx ?_)
  refine ex_seq ?_
  refine ex_region ?_
  refine ro_lt (r_fa (l4.sub HS.sub) fd43_0 rfl) rfl ?_
  refine ro_lt (r_ld ((l4.seg 0 1).sub HS.sub) sc41 rfl) rfl ?_
  replace h := bind_some h; obtain ⟨y12, e13, h⟩ := h
  refine ro_hy (o_c1 (vs := [v_a0]) HS (c_laws_toNodeS (r_a0.sub HS.sub) e13) cf70 rfl) rfl ?_
  rintro _ w14 ⟨cs15, rfl, hb, HS⟩
  obtain ⟨v17, rfl, -⟩ := (HS.rd 0 rfl).one
  refine ro_lt (r_fa (HS.boxAt 1 rfl) fd27_0 rfl) rfl ?_
  refine ro_hy (o_str (off := 0) (vs := [v17]) (l' := [v17, .slice none 0 0]) (HS.sel (G := [_, _, _]) [1] 0 rfl) rfl rfl (HS.rd 0 rfl).vc st24 rfl rfl (pl (HS.rd 0 rfl).pl pl0) rfl) rfl ?_
  rintro _ w18 ⟨rfl, hk, HS⟩
  refine RO.nil (nx ?_)
  refine ex_seq ?_
  refine ex_region ?_
  refine ro_lt (r_fa (l4.sub HS.sub) fd43_1 rfl) rfl ?_
  refine ro_lt (r_ld ((l4.seg 1 1).sub HS.sub) sc25 rfl) rfl ?_
  replace h := bind_some h; obtain ⟨y20, e21, h⟩ := h
  refine ro_hy (o_c1 (vs := [v_a1]) HS (c_laws_toIntS (r_a1.sub HS.sub) e21) cf71 rfl) rfl ?_
  rintro _ w22 ⟨cs23, rfl, hb, HS⟩
  obtain ⟨v25, rfl, -⟩ := (HS.rd 0 rfl).one
  refine ro_lt (r_fa (HS.boxAt 1 rfl) fd27_1 rfl) rfl ?_
  refine ro_hy (o_str (off := 1) (vs := [v25]) (l' := [v17, v25]) (HS.sel (G := [_, _, _, _]) [1] 0 rfl) rfl rfl (HS.rd 0 rfl).vc st25 rfl rfl (pl (HS.rd 0 rfl).pl pl0) rfl) rfl ?_
  rintro _ w26 ⟨rfl, hk, HS⟩
  refine RO.nil (nx ?_)
  refine ex_seq ?_
  refine ex_region ?_
  refine ro_lt (r_lda (HS.boxAt 0 rfl) ag27 rfl rfl) rfl ?_
  refine ro_hy (o_str (off := 0) (vs := [v17, v25]) (l' := [v17, v25]) (HS.sel (G := [_, _, _, _]) [3] 0 rfl) rfl rfl rfl st27 rfl rfl (pl (HS.rd 2 rfl).pl (pl (HS.rd 1 rfl).pl pl0)) rfl) rfl ?_
  rintro _ w28 ⟨rfl, hk, HS⟩
  refine RO.nil (nx ?_)
  obtain rfl := Option.some.inj h
  refine ex_ret ?_
  exact ret1 (.inr rfl) rfl (rv_box HS (i := 0) rfl rfl ag27 rfl) (P1.of (((HS.sel (G := [_, _, _, _]) [2] 0 rfl).sel (G := [_, _, _, _]) [3] 0 rfl).join) hs)
theorem c_laws_eqIntS {w : World} {a : List Int} {v_a : Value} {b : List Int} {v_b : Value} (r_a : Rd (.sl 3 (.int .i64)) (hp w) a [v_a]) (r_b : Rd (.sl 3 (.int .i64)) (hp w) b [v_b]) {r : Bool} (h : F_laws_eqIntS a b = some r) : Calls Try.prog 74 [v_a, v_b].toArray w (P1 .bool w r) := by
  unfold F_laws_eqIntS at h
  have HS := St.init w
  have hs := Sub.refl (hp w)
  refine calls_ex (n := 26) Try.func74 rfl Try.ntmps74 (Nat.le_of_ble_eq_true rfl) ?_
  refine ex_seq ?_
  refine ex_region ?_
  refine ro_lt (r_as (v := .bool false) rfl) rfl ?_
  refine RO.nil (nx ?_)
  refine ex_seq ?_
  refine ex_seq ?_
  refine ex_region ?_
  refine ro_lt (r_mv (v := v_a) rfl) rfl ?_
  have b1 := (r_a.sub HS.sub).big
  refine ro_lt (r_len (n := 1) (r_a.sub HS.sub) sl25 rfl) rfl ?_
  refine ro_lt (r_mv (v := v_b) rfl) rfl ?_
  have b2 := (r_b.sub HS.sub).big
  refine ro_lt (r_len (n := 1) (r_b.sub HS.sub) sl25 rfl) rfl ?_
  refine ro_lt (r_neq rfl rfl) rfl ?_
  refine RO.nil (nx ?_)
  replace h := ite_some h; rcases h with ⟨c3, h⟩ | ⟨c3, h⟩
  rotate_left
  · refine ex_if_t rfl (congrArg (!·) (decide_eq_false c3)) ?_
    refine ex_seq ?_
    refine ex_region ?_
    refine ro_lt (r_as (v := .bool false) rfl) rfl ?_
    refine RO.nil (nx ?_)
    obtain rfl := Option.some.inj h
    refine ex_ret (tq_ret ?_)
    exact ret1 (.inr rfl) rfl rfl (P1.of_flat HS hs rfl)
  refine ex_if_f rfl (congrArg (!·) (decide_eq_true c3)) ?_
  refine ex_skip (nx ?_)
  refine ex_seq ?_
  refine ex_seq ?_
  refine ex_region ?_
  refine ro_lt (r_as (v := iv 0) rfl) rfl ?_
  refine RO.nil (nx ?_)
  replace h := bind_some h; obtain ⟨y16, e17, h⟩ := h
  refine ex_lbr (fun (st : Int) s' w' => Has s' [(0, v_a), (1, v_b), (4, .bool false), (5, iv st)] ∧ St w (hp w) w' []) (fun r s' w' => FQ Try.prog Try.f74 26 (P1 .bool w r) .ret s' w') e17 ⟨⟨rfl, rfl, rfl, rfl, trivial⟩, HS⟩ ?_ ?_
  · rintro i_9 c' s' w10 ⟨hs_, HS⟩ h
    rw [has_put hs_]; clear hs_
    replace h : F_laws_eqIntS_b1 a b i_9 = some c' := h
    unfold F_laws_eqIntS_b1 at h
    refine ex_seq ?_
    refine ex_seq ?_
    refine ex_region ?_
    refine ro_lt (r_mv (v := iv i_9) rfl) rfl ?_
    refine ro_lt (r_mv (v := v_a) rfl) rfl ?_
    refine ro_lt (r_len (n := 1) (r_a.sub HS.sub) sl25 rfl) rfl ?_
    refine ro_lt (r_lss rfl rfl) rfl ?_
    refine RO.nil (nx ?_)
    replace h := ite_some h; rcases h with ⟨c11, h⟩ | ⟨c11, h⟩
    rotate_left
    · refine ex_if_f rfl (decide_eq_false c11) ?_
      refine ex_exit (tq_exit ?_)
      obtain rfl := Option.some.inj h
      exact lq_out ⟨⟨rfl, rfl, rfl, rfl, trivial⟩, HS⟩
    refine ex_if_t rfl (decide_eq_true c11) ?_
    refine ex_skip (nx ?_)
    refine ex_seq ?_
    refine ex_block ?_
    refine ex_seq ?_
    refine ex_dr (Mm (hp w) []) (fun _ => True) [0, 0, 3, 7, 0, 0, 48, 112, 255] [] (.op 0 (.op 1 (.op 2 (.op 3 (.op 4 (.op 5 (.op 6 (.op 7 (.op 8 .nil))))))))) mix (by kernel_rfl) (by kernel_rfl) ?_
    intro w12 hw hb; have HS := HS.ext hb; clear hw hb
    refine RT.lt rfl rfl rfl rfl (fun w' k => r_mv (v := v_a) rfl) ?_
    refine RT.lt rfl rfl rfl rfl (fun w' k => r_mv (v := iv i_9) rfl) ?_
    replace h := grd_some h; obtain ⟨g13, h⟩ := h
    refine RT.lt rfl rfl rfl rfl (fun w' k => r_ia (r_a.sub HS.sub) sl25 g13.1 g13.2 rfl rfl) ?_
    refine RT.lt rfl rfl rfl rfl (fun w' k => r_ld ((r_a.int g13.1 g13.2).kp HS.sub k.kp (mh rfl)) sc3 rfl) ?_
    refine RT.lt rfl rfl rfl rfl (fun w' k => r_mv (v := v_b) rfl) ?_
    refine RT.lt rfl rfl rfl rfl (fun w' k => r_mv (v := iv i_9) rfl) ?_
    replace h := grd_some h; obtain ⟨g14, h⟩ := h
    refine RT.lt rfl rfl rfl rfl (fun w' k => r_ia (r_b.sub HS.sub) sl25 g14.1 g14.2 rfl rfl) ?_
    refine RT.lt rfl rfl rfl rfl (fun w' k => r_ld ((r_b.int g14.1 g14.2).kp HS.sub k.kp (mh rfl)) sc3 rfl) ?_
    refine RT.lt rfl rfl rfl rfl (fun w' k => r_neq rfl rfl) ?_
    refine RT.nil (nx ?_)
    replace h := ite_some h; rcases h with ⟨c15, h⟩ | ⟨c15, h⟩
    rotate_left
    · refine ex_if_t rfl (congrArg (!·) (decide_eq_false c15)) ?_
      refine ex_seq ?_
      refine ex_region ?_
      refine ro_lt (r_as (v := .bool false) rfl) rfl ?_
      refine RO.nil (nx ?_)
      obtain rfl := Option.some.inj h
      refine ex_ret (blk_ret (tq_ret (lq_ret ?_)))
      exact ret1 (.inr rfl) rfl rfl (P1.of_flat HS hs rfl)
    refine ex_if_f rfl (congrArg (!·) (decide_eq_true c15)) ?_
    refine ex_skip (blk_nx (nx ?_))
    refine ex_region ?_
    refine ro_lt (r_mv (v := iv i_9) rfl) rfl ?_
    refine ro_lt (r_addw rfl rfl) rfl ?_
    refine ro_lt (r_as (v := iv (wi (i_9 + 1))) rfl) rfl ?_
    refine RO.nil ?_
    obtain rfl := Option.some.inj h
    exact lq_go ⟨⟨rfl, rfl, rfl, rfl, trivial⟩, HS⟩
  rcases y16 with r20 | y16
  · intro s' w' hR
    obtain rfl := Option.some.inj h
    exact (tq_ret hR)
  rintro s' w18 ⟨hs_, HS⟩
  rw [has_put hs_]; clear hs_
  refine (nx ?_)
  refine ex_seq ?_
  refine ex_region ?_
  refine ro_lt (r_as (v := .bool true) rfl) rfl ?_
  refine RO.nil (nx ?_)
  obtain rfl := Option.some.inj h
  refine ex_ret ?_
  exact ret1 (.inr rfl) rfl rfl (P1.of_flat HS hs rfl)
theorem c_laws_eqNode {w : World} {a : List Int × List Int × Int × Int} {v_a0 : Value} {v_a1 : Value} {b : List Int × List Int × Int × Int} {v_b0 : Value} {v_b1 : Value} (r_a0 : Rd (.sl 3 (.int .i64)) (hp w) a.1 [v_a0]) (r_a1 : Rd (.sl 3 (.int .i64)) (hp w) a.2.1 [v_a1]) (r_b0 : Rd (.sl 3 (.int .i64)) (hp w) b.1 [v_b0]) (r_b1 : Rd (.sl 3 (.int .i64)) (hp w) b.2.1 [v_b1]) {r : Bool} (h : F_laws_eqNode a b = some r) : Calls Try.prog 123 [.agg #[v_a0, v_a1, iv a.2.2.1, iv a.2.2.2], .agg #[v_b0, v_b1, iv b.2.2.1, iv b.2.2.2]].toArray w (P1 .bool w r) := by
  unfold F_laws_eqNode at h
  have HS := St.init w
  have hs := Sub.refl (hp w)
  refine calls_ex (n := 27) Try.func123 rfl Try.ntmps123 (Nat.le_of_ble_eq_true rfl) ?_
  refine ex_seq ?_
  refine ex_region ?_
  refine ro_hy (o_boxz HS (cs := [v_a0, v_a1, iv a.2.2.1, iv a.2.2.2]) rfl rfl) rfl ?_
  rintro _ w2 ⟨g1, H5, rfl, q3, l4, hb, HS⟩
  replace r_a0 := r_a0.sub q3
  replace r_a1 := r_a1.sub q3
  replace r_b0 := r_b0.sub q3
  replace r_b1 := r_b1.sub q3
  replace hs := hs.trans q3
  refine ro_hy (o_boxz HS (cs := [v_b0, v_b1, iv b.2.2.1, iv b.2.2.2]) rfl rfl) rfl ?_
  rintro _ w7 ⟨g6, H10, rfl, q8, l9, hb, HS⟩
  replace r_a0 := r_a0.sub q8
  replace r_a1 := r_a1.sub q8
  replace r_b0 := r_b0.sub q8
  replace r_b1 := r_b1.sub q8
  replace l4 := l4.sub q8
  replace hs := hs.trans q8
  refine ro_lt (r_as (v := .bool false) rfl) rfl ?_
  refine RO.nil (nx ?_)
  refine ex_seq ?_
  refine ex_seq ?_
  refine ex_region ?_
  refine ro_lt (r_fa (l4.sub HS.sub) fd72_0 rfl) rfl ?_
  refine ro_lt (r_ld ((l4.seg 0 1).sub HS.sub) sc25 rfl) rfl ?_
  refine ro_lt (r_fa (l9.sub HS.sub) fd72_0 rfl) rfl ?_
  refine ro_lt (r_ld ((l9.seg 0 1).sub HS.sub) sc25 rfl) rfl ?_
  replace h := bind_some h; obtain ⟨y11, e12, h⟩ := h
  refine ro_hy (o_cf (vs := [v_a0, v_b0]) HS rfl (c_laws_eqIntS (r_a0.sub HS.sub) (r_b0.sub HS.sub) e12) cf74 rfl) rfl ?_
  rintro _ w13 ⟨rfl, hb, HS⟩
  refine ro_lt (r_not rfl) rfl ?_
  refine RO.nil (nx ?_)
  replace h := ite_some h; rcases h with ⟨c14, h⟩ | ⟨c14, h⟩
  rotate_left
  · refine ex_if_t rfl (congrArg (!·) (bf c14)) ?_
    refine ex_seq ?_
    refine ex_region ?_
    refine ro_lt (r_as (v := .bool false) rfl) rfl ?_
    refine RO.nil (nx ?_)
    obtain rfl := Option.some.inj h
    refine ex_ret (tq_ret ?_)
    exact ret1 (.inr rfl) rfl rfl (P1.of_flat HS hs rfl)
  refine ex_if_f rfl (congrArg (!·) (c14)) ?_
  refine ex_skip (nx ?_)
  refine ex_seq ?_
  refine ex_seq ?_
  refine ex_region ?_
  refine ro_lt (r_fa (l4.sub HS.sub) fd72_1 rfl) rfl ?_
  refine ro_lt (r_ld ((l4.seg 1 1).sub HS.sub) sc25 rfl) rfl ?_
  refine ro_lt (r_fa (l9.sub HS.sub) fd72_1 rfl) rfl ?_
  refine ro_lt (r_ld ((l9.seg 1 1).sub HS.sub) sc25 rfl) rfl ?_
  replace h := bind_some h; obtain ⟨y15, e16, h⟩ := h
  refine ro_hy (o_cf (vs := [v_a1, v_b1]) HS rfl (c_laws_eqIntS (r_a1.sub HS.sub) (r_b1.sub HS.sub) e16) cf74 rfl) rfl ?_
  rintro _ w17 ⟨rfl, hb, HS⟩
  refine ro_lt (r_not rfl) rfl ?_
  refine RO.nil (nx ?_)
  replace h := ite_some h; rcases h with ⟨c18, h⟩ | ⟨c18, h⟩
  rotate_left
  · refine ex_if_t rfl (congrArg (!·) (bf c18)) ?_
    refine ex_seq ?_
    refine ex_region ?_
    refine ro_lt (r_as (v := .bool false) rfl) rfl ?_
    refine RO.nil (nx ?_)
    obtain rfl := Option.some.inj h
    refine ex_ret (tq_ret ?_)
    exact ret1 (.inr rfl) rfl rfl (P1.of_flat HS hs rfl)
  refine ex_if_f rfl (congrArg (!·) (c18)) ?_
  refine ex_skip (nx ?_)
  refine ex_seq ?_
  refine ex_seq ?_
  refine ex_region ?_
  refine ro_lt (r_fa (l4.sub HS.sub) fd72_2 rfl) rfl ?_
  refine ro_lt (r_ld ((l4.seg 2 1).sub HS.sub) sc3 rfl) rfl ?_
  refine ro_lt (r_fa (l9.sub HS.sub) fd72_2 rfl) rfl ?_
  refine ro_lt (r_ld ((l9.seg 2 1).sub HS.sub) sc3 rfl) rfl ?_
  refine ro_lt (r_neq rfl rfl) rfl ?_
  refine RO.nil (nx ?_)
  replace h := ite_some h; rcases h with ⟨c19, h⟩ | ⟨c19, h⟩
  rotate_left
  · refine ex_if_t rfl (congrArg (!·) (decide_eq_false c19)) ?_
    refine ex_seq ?_
    refine ex_region ?_
    refine ro_lt (r_as (v := .bool false) rfl) rfl ?_
    refine RO.nil (nx ?_)
    obtain rfl := Option.some.inj h
    refine ex_ret (tq_ret ?_)
    exact ret1 (.inr rfl) rfl rfl (P1.of_flat HS hs rfl)
  refine ex_if_f rfl (congrArg (!·) (decide_eq_true c19)) ?_
  refine ex_skip (nx ?_)
  refine ex_seq ?_
  refine ex_seq ?_
  refine ex_region ?_
  refine ro_lt (r_fa (l4.sub HS.sub) fd72_3 rfl) rfl ?_
  refine ro_lt (r_ld ((l4.seg 3 1).sub HS.sub) sc3 rfl) rfl ?_
  refine ro_lt (r_fa (l9.sub HS.sub) fd72_3 rfl) rfl ?_
  refine ro_lt (r_ld ((l9.seg 3 1).sub HS.sub) sc3 rfl) rfl ?_
  refine ro_lt (r_neq rfl rfl) rfl ?_
  refine RO.nil (nx ?_)
  replace h := ite_some h; rcases h with ⟨c20, h⟩ | ⟨c20, h⟩
  rotate_left
  · refine ex_if_t rfl (congrArg (!·) (decide_eq_false c20)) ?_
    refine ex_seq ?_
    refine ex_region ?_
    refine ro_lt (r_as (v := .bool false) rfl) rfl ?_
    refine RO.nil (nx ?_)
    obtain rfl := Option.some.inj h
    refine ex_ret (tq_ret ?_)
    exact ret1 (.inr rfl) rfl rfl (P1.of_flat HS hs rfl)
  refine ex_if_f rfl (congrArg (!·) (decide_eq_true c20)) ?_
  refine ex_skip (nx ?_)
  refine ex_seq ?_
  refine ex_region ?_
  refine ro_lt (r_as (v := .bool true) rfl) rfl ?_
  refine RO.nil (nx ?_)
  obtain rfl := Option.some.inj h
  refine ex_ret ?_
  exact ret1 (.inr rfl) rfl rfl (P1.of_flat HS hs rfl)
theorem c_laws_eqNodeS {w : World} {a : List (List Int × List Int × Int × Int)} {v_a : Value} {b : List (List Int × List Int × Int × Int)} {v_b : Value} (r_a : Rd (.sl 72 (.prod (.sl 3 (.int .i64)) (.prod (.sl 3 (.int .i64)) (.prod (.int .i64) (.int .i64))))) (hp w) a [v_a]) (r_b : Rd (.sl 72 (.prod (.sl 3 (.int .i64)) (.prod (.sl 3 (.int .i64)) (.prod (.int .i64) (.int .i64))))) (hp w) b [v_b]) {r : Bool} (h : F_laws_eqNodeS a b = some r) : Calls Try.prog 73 [v_a, v_b].toArray w (P1 .bool w r) := by
  unfold F_laws_eqNodeS at h
  have HS := St.init w
  have hs := Sub.refl (hp w)
  refine calls_ex (n := 27) Try.func73 rfl Try.ntmps73 (Nat.le_of_ble_eq_true rfl) ?_
  refine ex_seq ?_
  refine ex_region ?_
  refine ro_lt (r_as (v := .bool false) rfl) rfl ?_
  refine RO.nil (nx ?_)
  refine ex_seq ?_
  refine ex_seq ?_
  refine ex_region ?_
  refine ro_lt (r_mv (v := v_a) rfl) rfl ?_
  have b1 := (r_a.sub HS.sub).big
  refine ro_lt (r_len (n := 4) (r_a.sub HS.sub) sl24 rfl) rfl ?_
  refine ro_lt (r_mv (v := v_b) rfl) rfl ?_
  have b2 := (r_b.sub HS.sub).big
  refine ro_lt (r_len (n := 4) (r_b.sub HS.sub) sl24 rfl) rfl ?_
  refine ro_lt (r_neq rfl rfl) rfl ?_
  refine RO.nil (nx ?_)
  replace h := ite_some h; rcases h with ⟨c3, h⟩ | ⟨c3, h⟩
  rotate_left
  · refine ex_if_t rfl (congrArg (!·) (decide_eq_false c3)) ?_
    refine ex_seq ?_
    refine ex_region ?_
    refine ro_lt (r_as (v := .bool false) rfl) rfl ?_
    refine RO.nil (nx ?_)
    obtain rfl := Option.some.inj h
    refine ex_ret (tq_ret ?_)
    exact ret1 (.inr rfl) rfl rfl (P1.of_flat HS hs rfl)
  refine ex_if_f rfl (congrArg (!·) (decide_eq_true c3)) ?_
  refine ex_skip (nx ?_)
  refine ex_seq ?_
  refine ex_seq ?_
  refine ex_region ?_
  refine ro_lt (r_as (v := iv 0) rfl) rfl ?_
  refine RO.nil (nx ?_)
  replace h := bind_some h; obtain ⟨y31, e32, h⟩ := h
  refine ex_lbr (fun (st : Int) s' w' => Has s' [(0, v_a), (1, v_b), (4, .bool false), (5, iv st)] ∧ St w (hp w) w' []) (fun r s' w' => FQ Try.prog Try.f73 27 (P1 .bool w r) .ret s' w') e32 ⟨⟨rfl, rfl, rfl, rfl, trivial⟩, HS⟩ ?_ ?_
  · rintro i_9 c' s' w10 ⟨hs_, HS⟩ h
    rw [has_put hs_]; clear hs_
    replace h : F_laws_eqNodeS_b1 a b i_9 = some c' := h
    unfold F_laws_eqNodeS_b1 at h
    refine ex_seq ?_
    refine ex_seq ?_
    refine ex_region ?_
    refine ro_lt (r_mv (v := iv i_9) rfl) rfl ?_
    refine ro_lt (r_mv (v := v_a) rfl) rfl ?_
    refine ro_lt (r_len (n := 4) (r_a.sub HS.sub) sl24 rfl) rfl ?_
    refine ro_lt (r_lss rfl rfl) rfl ?_
    refine RO.nil (nx ?_)
    replace h := ite_some h; rcases h with ⟨c11, h⟩ | ⟨c11, h⟩
    rotate_left
    · refine ex_if_f rfl (decide_eq_false c11) ?_
      refine ex_exit (tq_exit ?_)
      obtain rfl := Option.some.inj h
      exact lq_out ⟨⟨rfl, rfl, rfl, rfl, trivial⟩, HS⟩
    refine ex_if_t rfl (decide_eq_true c11) ?_
    refine ex_skip (nx ?_)
    refine ex_seq ?_
    refine ex_block ?_
    refine ex_seq ?_
    refine ex_dr (Mm (hp w) []) (fun _ => True) [0, 0, 3, 7, 0, 0, 48, 112, 255, 511] [8] (.op 0 (.op 1 (.op 2 (.op 3 (.op 4 (.op 5 (.op 6 (.op 7 (.op 8 (.op 9 .nil)))))))))) mix (by kernel_rfl) (by kernel_rfl) ?_
    intro w12 hw hb; have HS := HS.ext hb; clear hw hb
    refine RT.lt rfl rfl rfl rfl (fun w' k => r_mv (v := v_a) rfl) ?_
    refine RT.lt rfl rfl rfl rfl (fun w' k => r_mv (v := iv i_9) rfl) ?_
    replace h := grd_some h; obtain ⟨g13, h⟩ := h
    obtain ⟨_, q14, l15⟩ := r_a.idx g13.1 g13.2
    obtain ⟨v16, v18, rfl, r17, r19⟩ := rd_K72 q14
    refine RT.lt rfl rfl rfl rfl (fun w' k => r_ia (r_a.sub HS.sub) sl24 g13.1 g13.2 rfl rfl) ?_
    refine RT.lt rfl rfl rfl rfl (fun w' k => r_lda (l15.kp HS.sub k.kp (mh rfl)) ag72 rfl rfl) ?_
    refine RT.lt rfl rfl rfl rfl (fun w' k => r_mv (v := v_b) rfl) ?_
    refine RT.lt rfl rfl rfl rfl (fun w' k => r_mv (v := iv i_9) rfl) ?_
    replace h := grd_some h; obtain ⟨g20, h⟩ := h
    obtain ⟨_, q21, l22⟩ := r_b.idx g20.1 g20.2
    obtain ⟨v23, v25, rfl, r24, r26⟩ := rd_K72 q21
    refine RT.lt rfl rfl rfl rfl (fun w' k => r_ia (r_b.sub HS.sub) sl24 g20.1 g20.2 rfl rfl) ?_
    refine RT.lt rfl rfl rfl rfl (fun w' k => r_lda (l22.kp HS.sub k.kp (mh rfl)) ag72 rfl rfl) ?_
    replace h := bind_some h; obtain ⟨y27, e28, h⟩ := h
    refine RT.hy rfl rfl rfl rfl rfl (o_cf (vs := [.agg #[v16, v18, iv ((((a.getD i_9.toNat (([] : List Int), ([] : List Int), 0, 0)).2).2).1), iv ((((a.getD i_9.toNat (([] : List Int), ([] : List Int), 0, 0)).2).2).2)], .agg #[v23, v25, iv ((((b.getD i_9.toNat (([] : List Int), ([] : List Int), 0, 0)).2).2).1), iv ((((b.getD i_9.toNat (([] : List Int), ([] : List Int), 0, 0)).2).2).2)]]) HS rfl (c_laws_eqNode (r17.sub HS.sub) (r19.sub HS.sub) (r24.sub HS.sub) (r26.sub HS.sub) e28) cf123 rfl) (fun _ _ ⟨_, hb, _⟩ => km_below hb (fun _ => trivial)) ?_
    rintro _ w29 ⟨rfl, hb, HS⟩
    refine RT.lt rfl rfl rfl rfl (fun w' k => r_not rfl) ?_
    refine RT.nil (nx ?_)
    replace h := ite_some h; rcases h with ⟨c30, h⟩ | ⟨c30, h⟩
    rotate_left
    · refine ex_if_t rfl (congrArg (!·) (bf c30)) ?_
      refine ex_seq ?_
      refine ex_region ?_
      refine ro_lt (r_as (v := .bool false) rfl) rfl ?_
      refine RO.nil (nx ?_)
      obtain rfl := Option.some.inj h
      refine ex_ret (blk_ret (tq_ret (lq_ret ?_)))
      exact ret1 (.inr rfl) rfl rfl (P1.of_flat HS hs rfl)
    refine ex_if_f rfl (congrArg (!·) (c30)) ?_
    refine ex_skip (blk_nx (nx ?_))
    refine ex_region ?_
    refine ro_lt (r_mv (v := iv i_9) rfl) rfl ?_
    refine ro_lt (r_addw rfl rfl) rfl ?_
    refine ro_lt (r_as (v := iv (wi (i_9 + 1))) rfl) rfl ?_
    refine RO.nil ?_
    obtain rfl := Option.some.inj h
    exact lq_go ⟨⟨rfl, rfl, rfl, rfl, trivial⟩, HS⟩
  rcases y31 with r35 | y31
  · intro s' w' hR
    obtain rfl := Option.some.inj h
    exact (tq_ret hR)
  rintro s' w33 ⟨hs_, HS⟩
  rw [has_put hs_]; clear hs_
  refine (nx ?_)
  refine ex_seq ?_
  refine ex_region ?_
  refine ro_lt (r_as (v := .bool true) rfl) rfl ?_
  refine RO.nil (nx ?_)
  obtain rfl := Option.some.inj h
  refine ex_ret ?_
  exact ret1 (.inr rfl) rfl rfl (P1.of_flat HS hs rfl)
theorem c_laws_eqStructure {w : World} {a : (List (List Int × List Int × Int × Int)) × List Int} {v_a0 : Value} {v_a1 : Value} {b : (List (List Int × List Int × Int × Int)) × List Int} {v_b0 : Value} {v_b1 : Value} (r_a0 : Rd (.sl 72 (.prod (.sl 3 (.int .i64)) (.prod (.sl 3 (.int .i64)) (.prod (.int .i64) (.int .i64))))) (hp w) a.1 [v_a0]) (r_a1 : Rd (.sl 3 (.int .i64)) (hp w) a.2 [v_a1]) (r_b0 : Rd (.sl 72 (.prod (.sl 3 (.int .i64)) (.prod (.sl 3 (.int .i64)) (.prod (.int .i64) (.int .i64))))) (hp w) b.1 [v_b0]) (r_b1 : Rd (.sl 3 (.int .i64)) (hp w) b.2 [v_b1]) {r : Bool} (h : F_laws_eqStructure a b = some r) : Calls Try.prog 26 [.agg #[v_a0, v_a1], .agg #[v_b0, v_b1]].toArray w (P1 .bool w r) := by
  unfold F_laws_eqStructure at h
  have HS := St.init w
  have hs := Sub.refl (hp w)
  refine calls_ex (n := 17) Try.func26 rfl Try.ntmps26 (Nat.le_of_ble_eq_true rfl) ?_
  refine ex_seq ?_
  refine ex_region ?_
  refine ro_hy (o_boxz HS (cs := [v_a0, v_a1]) rfl rfl) rfl ?_
  rintro _ w2 ⟨g1, H5, rfl, q3, l4, hb, HS⟩
  replace r_a0 := r_a0.sub q3
  replace r_a1 := r_a1.sub q3
  replace r_b0 := r_b0.sub q3
  replace r_b1 := r_b1.sub q3
  replace hs := hs.trans q3
  refine ro_hy (o_boxz HS (cs := [v_b0, v_b1]) rfl rfl) rfl ?_
  rintro _ w7 ⟨g6, H10, rfl, q8, l9, hb, HS⟩
  replace r_a0 := r_a0.sub q8
  replace r_a1 := r_a1.sub q8
  replace r_b0 := r_b0.sub q8
  replace r_b1 := r_b1.sub q8
  replace l4 := l4.sub q8
  replace hs := hs.trans q8
  refine ro_lt (r_as (v := .bool false) rfl) rfl ?_
  refine RO.nil (nx ?_)
  refine ex_seq ?_
  refine ex_seq ?_
  refine ex_region ?_
  refine ro_lt (r_fa (l4.sub HS.sub) fd27_0 rfl) rfl ?_
  refine ro_lt (r_ld ((l4.seg 0 1).sub HS.sub) sc24 rfl) rfl ?_
  refine ro_lt (r_fa (l9.sub HS.sub) fd27_0 rfl) rfl ?_
  refine ro_lt (r_ld ((l9.seg 0 1).sub HS.sub) sc24 rfl) rfl ?_
  replace h := bind_some h; obtain ⟨y11, e12, h⟩ := h
  refine ro_hy (o_cf (vs := [v_a0, v_b0]) HS rfl (c_laws_eqNodeS (r_a0.sub HS.sub) (r_b0.sub HS.sub) e12) cf73 rfl) rfl ?_
  rintro _ w13 ⟨rfl, hb, HS⟩
  refine ro_lt (r_not rfl) rfl ?_
  refine RO.nil (nx ?_)
  replace h := ite_some h; rcases h with ⟨c14, h⟩ | ⟨c14, h⟩
  rotate_left
  · refine ex_if_t rfl (congrArg (!·) (bf c14)) ?_
    refine ex_seq ?_
    refine ex_region ?_
    refine ro_lt (r_as (v := .bool false) rfl) rfl ?_
    refine RO.nil (nx ?_)
    obtain rfl := Option.some.inj h
    refine ex_ret (tq_ret ?_)
    exact ret1 (.inr rfl) rfl rfl (P1.of_flat HS hs rfl)
  refine ex_if_f rfl (congrArg (!·) (c14)) ?_
  refine ex_skip (nx ?_)
  refine ex_seq ?_
  refine ex_seq ?_
  refine ex_region ?_
  refine ro_lt (r_fa (l4.sub HS.sub) fd27_1 rfl) rfl ?_
  refine ro_lt (r_ld ((l4.seg 1 1).sub HS.sub) sc25 rfl) rfl ?_
  refine ro_lt (r_fa (l9.sub HS.sub) fd27_1 rfl) rfl ?_
  refine ro_lt (r_ld ((l9.seg 1 1).sub HS.sub) sc25 rfl) rfl ?_
  replace h := bind_some h; obtain ⟨y15, e16, h⟩ := h
  refine ro_hy (o_cf (vs := [v_a1, v_b1]) HS rfl (c_laws_eqIntS (r_a1.sub HS.sub) (r_b1.sub HS.sub) e16) cf74 rfl) rfl ?_
  rintro _ w17 ⟨rfl, hb, HS⟩
  refine ro_lt (r_not rfl) rfl ?_
  refine RO.nil (nx ?_)
  replace h := ite_some h; rcases h with ⟨c18, h⟩ | ⟨c18, h⟩
  rotate_left
  · refine ex_if_t rfl (congrArg (!·) (bf c18)) ?_
    refine ex_seq ?_
    refine ex_region ?_
    refine ro_lt (r_as (v := .bool false) rfl) rfl ?_
    refine RO.nil (nx ?_)
    obtain rfl := Option.some.inj h
    refine ex_ret (tq_ret ?_)
    exact ret1 (.inr rfl) rfl rfl (P1.of_flat HS hs rfl)
  refine ex_if_f rfl (congrArg (!·) (c18)) ?_
  refine ex_skip (nx ?_)
  refine ex_seq ?_
  refine ex_region ?_
  refine ro_lt (r_as (v := .bool true) rfl) rfl ?_
  refine RO.nil (nx ?_)
  obtain rfl := Option.some.inj h
  refine ex_ret ?_
  exact ret1 (.inr rfl) rfl rfl (P1.of_flat HS hs rfl)
theorem c_spec_l7Same {w : World} {a : List Int} {v_a : Value} {b : List Int} {v_b : Value} (r_a : Rd (.sl 3 (.int .i64)) (hp w) a [v_a]) (r_b : Rd (.sl 3 (.int .i64)) (hp w) b [v_b]) {r : Bool} (h : F_spec_l7Same a b = some r) : Calls Try.prog 60 [v_a, v_b].toArray w (P1 .bool w r) := by
  unfold F_spec_l7Same at h
  have HS := St.init w
  have hs := Sub.refl (hp w)
  refine calls_ex (n := 26) Try.func60 rfl Try.ntmps60 (Nat.le_of_ble_eq_true rfl) ?_
  refine ex_seq ?_
  refine ex_region ?_
  refine ro_lt (r_as (v := .bool false) rfl) rfl ?_
  refine RO.nil (nx ?_)
  refine ex_seq ?_
  refine ex_seq ?_
  refine ex_region ?_
  refine ro_lt (r_mv (v := v_a) rfl) rfl ?_
  have b1 := (r_a.sub HS.sub).big
  refine ro_lt (r_len (n := 1) (r_a.sub HS.sub) sl25 rfl) rfl ?_
  refine ro_lt (r_mv (v := v_b) rfl) rfl ?_
  have b2 := (r_b.sub HS.sub).big
  refine ro_lt (r_len (n := 1) (r_b.sub HS.sub) sl25 rfl) rfl ?_
  refine ro_lt (r_neq rfl rfl) rfl ?_
  refine RO.nil (nx ?_)
  replace h := ite_some h; rcases h with ⟨c3, h⟩ | ⟨c3, h⟩
  rotate_left
  · refine ex_if_t rfl (congrArg (!·) (decide_eq_false c3)) ?_
    refine ex_seq ?_
    refine ex_region ?_
    refine ro_lt (r_as (v := .bool false) rfl) rfl ?_
    refine RO.nil (nx ?_)
    obtain rfl := Option.some.inj h
    refine ex_ret (tq_ret ?_)
    exact ret1 (.inr rfl) rfl rfl (P1.of_flat HS hs rfl)
  refine ex_if_f rfl (congrArg (!·) (decide_eq_true c3)) ?_
  refine ex_skip (nx ?_)
  refine ex_seq ?_
  refine ex_seq ?_
  refine ex_region ?_
  refine ro_lt (r_as (v := iv 0) rfl) rfl ?_
  refine RO.nil (nx ?_)
  replace h := bind_some h; obtain ⟨y16, e17, h⟩ := h
  refine ex_lbr (fun (st : Int) s' w' => Has s' [(0, v_a), (1, v_b), (4, .bool false), (5, iv st)] ∧ St w (hp w) w' []) (fun r s' w' => FQ Try.prog Try.f60 26 (P1 .bool w r) .ret s' w') e17 ⟨⟨rfl, rfl, rfl, rfl, trivial⟩, HS⟩ ?_ ?_
  · rintro k_9 c' s' w10 ⟨hs_, HS⟩ h
    rw [has_put hs_]; clear hs_
    replace h : F_spec_l7Same_b1 a b k_9 = some c' := h
    unfold F_spec_l7Same_b1 at h
    refine ex_seq ?_
    refine ex_seq ?_
    refine ex_region ?_
    refine ro_lt (r_mv (v := iv k_9) rfl) rfl ?_
    refine ro_lt (r_mv (v := v_a) rfl) rfl ?_
    refine ro_lt (r_len (n := 1) (r_a.sub HS.sub) sl25 rfl) rfl ?_
    refine ro_lt (r_lss rfl rfl) rfl ?_
    refine RO.nil (nx ?_)
    replace h := ite_some h; rcases h with ⟨c11, h⟩ | ⟨c11, h⟩
    rotate_left
    · refine ex_if_f rfl (decide_eq_false c11) ?_
      refine ex_exit (tq_exit ?_)
      obtain rfl := Option.some.inj h
      exact lq_out ⟨⟨rfl, rfl, rfl, rfl, trivial⟩, HS⟩
    refine ex_if_t rfl (decide_eq_true c11) ?_
    refine ex_skip (nx ?_)
    refine ex_seq ?_
    refine ex_block ?_
    refine ex_seq ?_
    refine ex_dr (Mm (hp w) []) (fun _ => True) [0, 0, 3, 7, 0, 0, 48, 112, 255] [] (.op 0 (.op 1 (.op 2 (.op 3 (.op 4 (.op 5 (.op 6 (.op 7 (.op 8 .nil))))))))) mix (by kernel_rfl) (by kernel_rfl) ?_
    intro w12 hw hb; have HS := HS.ext hb; clear hw hb
    refine RT.lt rfl rfl rfl rfl (fun w' k => r_mv (v := v_a) rfl) ?_
    refine RT.lt rfl rfl rfl rfl (fun w' k => r_mv (v := iv k_9) rfl) ?_
    replace h := grd_some h; obtain ⟨g13, h⟩ := h
    refine RT.lt rfl rfl rfl rfl (fun w' k => r_ia (r_a.sub HS.sub) sl25 g13.1 g13.2 rfl rfl) ?_
    refine RT.lt rfl rfl rfl rfl (fun w' k => r_ld ((r_a.int g13.1 g13.2).kp HS.sub k.kp (mh rfl)) sc3 rfl) ?_
    refine RT.lt rfl rfl rfl rfl (fun w' k => r_mv (v := v_b) rfl) ?_
    refine RT.lt rfl rfl rfl rfl (fun w' k => r_mv (v := iv k_9) rfl) ?_
    replace h := grd_some h; obtain ⟨g14, h⟩ := h
    refine RT.lt rfl rfl rfl rfl (fun w' k => r_ia (r_b.sub HS.sub) sl25 g14.1 g14.2 rfl rfl) ?_
    refine RT.lt rfl rfl rfl rfl (fun w' k => r_ld ((r_b.int g14.1 g14.2).kp HS.sub k.kp (mh rfl)) sc3 rfl) ?_
    refine RT.lt rfl rfl rfl rfl (fun w' k => r_neq rfl rfl) ?_
    refine RT.nil (nx ?_)
    replace h := ite_some h; rcases h with ⟨c15, h⟩ | ⟨c15, h⟩
    rotate_left
    · refine ex_if_t rfl (congrArg (!·) (decide_eq_false c15)) ?_
      refine ex_seq ?_
      refine ex_region ?_
      refine ro_lt (r_as (v := .bool false) rfl) rfl ?_
      refine RO.nil (nx ?_)
      obtain rfl := Option.some.inj h
      refine ex_ret (blk_ret (tq_ret (lq_ret ?_)))
      exact ret1 (.inr rfl) rfl rfl (P1.of_flat HS hs rfl)
    refine ex_if_f rfl (congrArg (!·) (decide_eq_true c15)) ?_
    refine ex_skip (blk_nx (nx ?_))
    refine ex_region ?_
    refine ro_lt (r_mv (v := iv k_9) rfl) rfl ?_
    refine ro_lt (r_addw rfl rfl) rfl ?_
    refine ro_lt (r_as (v := iv (wi (k_9 + 1))) rfl) rfl ?_
    refine RO.nil ?_
    obtain rfl := Option.some.inj h
    exact lq_go ⟨⟨rfl, rfl, rfl, rfl, trivial⟩, HS⟩
  rcases y16 with r20 | y16
  · intro s' w' hR
    obtain rfl := Option.some.inj h
    exact (tq_ret hR)
  rintro s' w18 ⟨hs_, HS⟩
  rw [has_put hs_]; clear hs_
  refine (nx ?_)
  refine ex_seq ?_
  refine ex_region ?_
  refine ro_lt (r_as (v := .bool true) rfl) rfl ?_
  refine RO.nil (nx ?_)
  obtain rfl := Option.some.inj h
  refine ex_ret ?_
  exact ret1 (.inr rfl) rfl rfl (P1.of_flat HS hs rfl)
theorem c_spec_l12SameNode {w : World} {a : List Int × List Int × Int × Int} {v_a0 : Value} {v_a1 : Value} {b : List Int × List Int × Int × Int} {v_b0 : Value} {v_b1 : Value} (r_a0 : Rd (.sl 3 (.int .i64)) (hp w) a.1 [v_a0]) (r_a1 : Rd (.sl 3 (.int .i64)) (hp w) a.2.1 [v_a1]) (r_b0 : Rd (.sl 3 (.int .i64)) (hp w) b.1 [v_b0]) (r_b1 : Rd (.sl 3 (.int .i64)) (hp w) b.2.1 [v_b1]) {r : Bool} (h : F_spec_l12SameNode a b = some r) : Calls Try.prog 61 [.agg #[v_a0, v_a1, iv a.2.2.1, iv a.2.2.2], .agg #[v_b0, v_b1, iv b.2.2.1, iv b.2.2.2]].toArray w (P1 .bool w r) := by
  unfold F_spec_l12SameNode at h
  have HS := St.init w
  have hs := Sub.refl (hp w)
  refine calls_ex (n := 31) Try.func61 rfl Try.ntmps61 (Nat.le_of_ble_eq_true rfl) ?_
  refine ex_seq ?_
  refine ex_region ?_
  refine ro_hy (o_boxz HS (cs := [v_a0, v_a1, iv a.2.2.1, iv a.2.2.2]) rfl rfl) rfl ?_
  rintro _ w2 ⟨g1, H5, rfl, q3, l4, hb, HS⟩
  replace r_a0 := r_a0.sub q3
  replace r_a1 := r_a1.sub q3
  replace r_b0 := r_b0.sub q3
  replace r_b1 := r_b1.sub q3
  replace hs := hs.trans q3
  refine ro_hy (o_boxz HS (cs := [v_b0, v_b1, iv b.2.2.1, iv b.2.2.2]) rfl rfl) rfl ?_
  rintro _ w7 ⟨g6, H10, rfl, q8, l9, hb, HS⟩
  replace r_a0 := r_a0.sub q8
  replace r_a1 := r_a1.sub q8
  replace r_b0 := r_b0.sub q8
  replace r_b1 := r_b1.sub q8
  replace l4 := l4.sub q8
  replace hs := hs.trans q8
  refine ro_lt (r_as (v := .bool false) rfl) rfl ?_
  refine RO.nil (nx ?_)
  refine ex_seq ?_
  refine ex_region ?_
  refine ro_lt (r_fa (l4.sub HS.sub) fd72_0 rfl) rfl ?_
  refine ro_lt (r_ld ((l4.seg 0 1).sub HS.sub) sc25 rfl) rfl ?_
  refine ro_lt (r_fa (l9.sub HS.sub) fd72_0 rfl) rfl ?_
  refine ro_lt (r_ld ((l9.seg 0 1).sub HS.sub) sc25 rfl) rfl ?_
  replace h := bind_some h; obtain ⟨y11, e12, h⟩ := h
  refine ro_hy (o_cf (vs := [v_a0, v_b0]) HS rfl (c_spec_l7Same (r_a0.sub HS.sub) (r_b0.sub HS.sub) e12) cf60 rfl) rfl ?_
  rintro _ w13 ⟨rfl, hb, HS⟩
  refine ro_lt (r_mv (v := .bool y11) rfl) rfl ?_
  replace h := ite_some h; rcases h with ⟨c14, h⟩ | ⟨c14, h⟩
  rotate_left
  · refine ro_off (sb (bf c14)) rfl rfl ?_
    refine ro_off (sb (bf c14)) rfl rfl ?_
    refine ro_off (sb (bf c14)) rfl rfl ?_
    refine ro_off (sb (bf c14)) rfl rfl ?_
    refine ro_off (sb (bf c14)) rfl rfl ?_
    refine ro_lt (r_pickf (v := .bool false) (bf c14) rfl rfl) rfl ?_
    refine ro_lt (r_mv (v := .bool false) rfl) rfl ?_
    refine ro_off (sb (rfl)) rfl rfl ?_
    refine ro_off (sb (rfl)) rfl rfl ?_
    refine ro_off (sb (rfl)) rfl rfl ?_
    refine ro_off (sb (rfl)) rfl rfl ?_
    refine ro_off (sb (rfl)) rfl rfl ?_
    refine ro_lt (r_pickf (v := .bool false) (rfl) rfl rfl) rfl ?_
    refine ro_lt (r_mv (v := .bool false) rfl) rfl ?_
    refine ro_off (sb (rfl)) rfl rfl ?_
    refine ro_off (sb (rfl)) rfl rfl ?_
    refine ro_off (sb (rfl)) rfl rfl ?_
    refine ro_off (sb (rfl)) rfl rfl ?_
    refine ro_off (sb (rfl)) rfl rfl ?_
    refine ro_lt (r_pickf (v := .bool false) (rfl) rfl rfl) rfl ?_
    refine ro_lt (r_as (v := .bool false) rfl) rfl ?_
    refine RO.nil (nx ?_)
    obtain rfl := Option.some.inj h
    refine ex_ret ?_
    exact ret1 (.inr rfl) rfl rfl (P1.of_flat HS hs rfl)
  refine ro_on (sb (c14)) ?_
  refine ro_lt (r_fa (l4.sub HS.sub) fd72_1 rfl) rfl ?_
  refine ro_on (sb (c14)) ?_
  refine ro_lt (r_ld ((l4.seg 1 1).sub HS.sub) sc25 rfl) rfl ?_
  refine ro_on (sb (c14)) ?_
  refine ro_lt (r_fa (l9.sub HS.sub) fd72_1 rfl) rfl ?_
  refine ro_on (sb (c14)) ?_
  refine ro_lt (r_ld ((l9.seg 1 1).sub HS.sub) sc25 rfl) rfl ?_
  replace h := bind_some h; obtain ⟨y15, e16, h⟩ := h
  refine ro_on (sb (c14)) ?_
  refine ro_hy (o_cf (vs := [v_a1, v_b1]) HS rfl (c_spec_l7Same (r_a1.sub HS.sub) (r_b1.sub HS.sub) e16) cf60 rfl) rfl ?_
  rintro _ w17 ⟨rfl, hb, HS⟩
  refine ro_lt (r_pickt (v := .bool y15) (c14) rfl rfl) rfl ?_
  refine ro_lt (r_mv (v := .bool y15) rfl) rfl ?_
  replace h := ite_some h; rcases h with ⟨c18, h⟩ | ⟨c18, h⟩
  rotate_left
  · refine ro_off (sb (bf c18)) rfl rfl ?_
    refine ro_off (sb (bf c18)) rfl rfl ?_
    refine ro_off (sb (bf c18)) rfl rfl ?_
    refine ro_off (sb (bf c18)) rfl rfl ?_
    refine ro_off (sb (bf c18)) rfl rfl ?_
    refine ro_lt (r_pickf (v := .bool false) (bf c18) rfl rfl) rfl ?_
    refine ro_lt (r_mv (v := .bool false) rfl) rfl ?_
    refine ro_off (sb (rfl)) rfl rfl ?_
    refine ro_off (sb (rfl)) rfl rfl ?_
    refine ro_off (sb (rfl)) rfl rfl ?_
    refine ro_off (sb (rfl)) rfl rfl ?_
    refine ro_off (sb (rfl)) rfl rfl ?_
    refine ro_lt (r_pickf (v := .bool false) (rfl) rfl rfl) rfl ?_
    refine ro_lt (r_as (v := .bool false) rfl) rfl ?_
    refine RO.nil (nx ?_)
    obtain rfl := Option.some.inj h
    refine ex_ret ?_
    exact ret1 (.inr rfl) rfl rfl (P1.of_flat HS hs rfl)
  refine ro_on (sb (c18)) ?_
  refine ro_lt (r_fa (l4.sub HS.sub) fd72_2 rfl) rfl ?_
  refine ro_on (sb (c18)) ?_
  refine ro_lt (r_ld ((l4.seg 2 1).sub HS.sub) sc3 rfl) rfl ?_
  refine ro_on (sb (c18)) ?_
  refine ro_lt (r_fa (l9.sub HS.sub) fd72_2 rfl) rfl ?_
  refine ro_on (sb (c18)) ?_
  refine ro_lt (r_ld ((l9.seg 2 1).sub HS.sub) sc3 rfl) rfl ?_
  refine ro_on (sb (c18)) ?_
  refine ro_lt (r_eql rfl rfl) rfl ?_
  refine ro_lt (r_pickt (v := .bool ((decide (a.2.2.1 = b.2.2.1)))) (c18) rfl rfl) rfl ?_
  refine ro_lt (r_mv (v := .bool ((decide (a.2.2.1 = b.2.2.1)))) rfl) rfl ?_
  replace h := ite_some h; rcases h with ⟨c19, h⟩ | ⟨c19, h⟩
  rotate_left
  · refine ro_off (sb (decide_eq_false c19)) rfl rfl ?_
    refine ro_off (sb (decide_eq_false c19)) rfl rfl ?_
    refine ro_off (sb (decide_eq_false c19)) rfl rfl ?_
    refine ro_off (sb (decide_eq_false c19)) rfl rfl ?_
    refine ro_off (sb (decide_eq_false c19)) rfl rfl ?_
    refine ro_lt (r_pickf (v := .bool false) (decide_eq_false c19) rfl rfl) rfl ?_
    refine ro_lt (r_as (v := .bool false) rfl) rfl ?_
    refine RO.nil (nx ?_)
    obtain rfl := Option.some.inj h
    refine ex_ret ?_
    exact ret1 (.inr rfl) rfl rfl (P1.of_flat HS hs rfl)
  refine ro_on (sb (decide_eq_true c19)) ?_
  refine ro_lt (r_fa (l4.sub HS.sub) fd72_3 rfl) rfl ?_
  refine ro_on (sb (decide_eq_true c19)) ?_
  refine ro_lt (r_ld ((l4.seg 3 1).sub HS.sub) sc3 rfl) rfl ?_
  refine ro_on (sb (decide_eq_true c19)) ?_
  refine ro_lt (r_fa (l9.sub HS.sub) fd72_3 rfl) rfl ?_
  refine ro_on (sb (decide_eq_true c19)) ?_
  refine ro_lt (r_ld ((l9.seg 3 1).sub HS.sub) sc3 rfl) rfl ?_
  refine ro_on (sb (decide_eq_true c19)) ?_
  refine ro_lt (r_eql rfl rfl) rfl ?_
  refine ro_lt (r_pickt (v := .bool ((decide (a.2.2.2 = b.2.2.2)))) (decide_eq_true c19) rfl rfl) rfl ?_
  refine ro_lt (r_as (v := .bool ((decide (a.2.2.2 = b.2.2.2)))) rfl) rfl ?_
  refine RO.nil (nx ?_)
  obtain rfl := Option.some.inj h
  refine ex_ret ?_
  exact ret1 (.inr rfl) rfl rfl (P1.of_flat HS hs rfl)
theorem c_spec_EqualStructure {w : World} {a : (List (List Int × List Int × Int × Int)) × List Int} {v_a0 : Value} {v_a1 : Value} {b : (List (List Int × List Int × Int × Int)) × List Int} {v_b0 : Value} {v_b1 : Value} (r_a0 : Rd (.sl 72 (.prod (.sl 3 (.int .i64)) (.prod (.sl 3 (.int .i64)) (.prod (.int .i64) (.int .i64))))) (hp w) a.1 [v_a0]) (r_a1 : Rd (.sl 3 (.int .i64)) (hp w) a.2 [v_a1]) (r_b0 : Rd (.sl 72 (.prod (.sl 3 (.int .i64)) (.prod (.sl 3 (.int .i64)) (.prod (.int .i64) (.int .i64))))) (hp w) b.1 [v_b0]) (r_b1 : Rd (.sl 3 (.int .i64)) (hp w) b.2 [v_b1]) {r : Bool} (h : F_spec_EqualStructure a b = some r) : Calls Try.prog 16 [.agg #[v_a0, v_a1], .agg #[v_b0, v_b1]].toArray w (P1 .bool w r) := by
  unfold F_spec_EqualStructure at h
  have HS := St.init w
  have hs := Sub.refl (hp w)
  refine calls_ex (n := 40) Try.func16 rfl Try.ntmps16 (Nat.le_of_ble_eq_true rfl) ?_
  refine ex_seq ?_
  refine ex_region ?_
  refine ro_hy (o_boxz HS (cs := [v_a0, v_a1]) rfl rfl) rfl ?_
  rintro _ w2 ⟨g1, H5, rfl, q3, l4, hb, HS⟩
  replace r_a0 := r_a0.sub q3
  replace r_a1 := r_a1.sub q3
  replace r_b0 := r_b0.sub q3
  replace r_b1 := r_b1.sub q3
  replace hs := hs.trans q3
  refine ro_hy (o_boxz HS (cs := [v_b0, v_b1]) rfl rfl) rfl ?_
  rintro _ w7 ⟨g6, H10, rfl, q8, l9, hb, HS⟩
  replace r_a0 := r_a0.sub q8
  replace r_a1 := r_a1.sub q8
  replace r_b0 := r_b0.sub q8
  replace r_b1 := r_b1.sub q8
  replace l4 := l4.sub q8
  replace hs := hs.trans q8
  refine ro_lt (r_as (v := .bool false) rfl) rfl ?_
  refine RO.nil (nx ?_)
  refine ex_seq ?_
  refine ex_seq ?_
  refine ex_region ?_
  refine ro_lt (r_fa (l4.sub HS.sub) fd27_0 rfl) rfl ?_
  refine ro_lt (r_ld ((l4.seg 0 1).sub HS.sub) sc24 rfl) rfl ?_
  have b11 := (r_a0.sub HS.sub).big
  refine ro_lt (r_len (n := 4) (r_a0.sub HS.sub) sl24 rfl) rfl ?_
  refine ro_lt (r_fa (l9.sub HS.sub) fd27_0 rfl) rfl ?_
  refine ro_lt (r_ld ((l9.seg 0 1).sub HS.sub) sc24 rfl) rfl ?_
  have b12 := (r_b0.sub HS.sub).big
  refine ro_lt (r_len (n := 4) (r_b0.sub HS.sub) sl24 rfl) rfl ?_
  refine ro_lt (r_neq rfl rfl) rfl ?_
  refine ro_lt (r_mv (v := .bool ((!(decide ((a.1.length : Int) = (b.1.length : Int)))))) rfl) rfl ?_
  replace h := ite_some h; rcases h with ⟨c13, h⟩ | ⟨c13, h⟩
  rotate_left
  · refine ro_off (sb (congrArg (!·) (decide_eq_false c13))) rfl rfl ?_
    refine ro_off (sb (congrArg (!·) (decide_eq_false c13))) rfl rfl ?_
    refine ro_off (sb (congrArg (!·) (decide_eq_false c13))) rfl rfl ?_
    refine ro_off (sb (congrArg (!·) (decide_eq_false c13))) rfl rfl ?_
    refine ro_off (sb (congrArg (!·) (decide_eq_false c13))) rfl rfl ?_
    refine ro_off (sb (congrArg (!·) (decide_eq_false c13))) rfl rfl ?_
    refine ro_lt (r_pickt (v := .bool true) (congrArg (!·) (decide_eq_false c13)) rfl rfl) rfl ?_
    refine RO.nil (nx ?_)
    refine ex_if_t rfl (rfl) ?_
    refine ex_seq ?_
    refine ex_region ?_
    refine ro_lt (r_as (v := .bool false) rfl) rfl ?_
    refine RO.nil (nx ?_)
    obtain rfl := Option.some.inj h
    refine ex_ret (tq_ret ?_)
    exact ret1 (.inr rfl) rfl rfl (P1.of_flat HS hs rfl)
  refine ro_on (sb (congrArg (!·) (decide_eq_true c13))) ?_
  refine ro_lt (r_fa (l4.sub HS.sub) fd27_1 rfl) rfl ?_
  refine ro_on (sb (congrArg (!·) (decide_eq_true c13))) ?_
  refine ro_lt (r_ld ((l4.seg 1 1).sub HS.sub) sc25 rfl) rfl ?_
  refine ro_on (sb (congrArg (!·) (decide_eq_true c13))) ?_
  refine ro_lt (r_fa (l9.sub HS.sub) fd27_1 rfl) rfl ?_
  refine ro_on (sb (congrArg (!·) (decide_eq_true c13))) ?_
  refine ro_lt (r_ld ((l9.seg 1 1).sub HS.sub) sc25 rfl) rfl ?_
  replace h := bind_some h; obtain ⟨y14, e15, h⟩ := h
  refine ro_on (sb (congrArg (!·) (decide_eq_true c13))) ?_
  refine ro_hy (o_cf (vs := [v_a1, v_b1]) HS rfl (c_spec_l7Same (r_a1.sub HS.sub) (r_b1.sub HS.sub) e15) cf60 rfl) rfl ?_
  rintro _ w16 ⟨rfl, hb, HS⟩
  refine ro_on (sb (congrArg (!·) (decide_eq_true c13))) ?_
  refine ro_lt (r_not rfl) rfl ?_
  refine ro_lt (r_pickf (v := .bool ((!y14))) (congrArg (!·) (decide_eq_true c13)) rfl rfl) rfl ?_
  refine RO.nil (nx ?_)
  replace h := ite_some h; rcases h with ⟨c17, h⟩ | ⟨c17, h⟩
  rotate_left
  · refine ex_if_t rfl (congrArg (!·) (bf c17)) ?_
    refine ex_seq ?_
    refine ex_region ?_
    refine ro_lt (r_as (v := .bool false) rfl) rfl ?_
    refine RO.nil (nx ?_)
    obtain rfl := Option.some.inj h
    refine ex_ret (tq_ret ?_)
    exact ret1 (.inr rfl) rfl rfl (P1.of_flat HS hs rfl)
  refine ex_if_f rfl (congrArg (!·) (c17)) ?_
  refine ex_skip (nx ?_)
  refine ex_seq ?_
  refine ex_seq ?_
  refine ex_region ?_
  refine ro_lt (r_as (v := iv 0) rfl) rfl ?_
  refine RO.nil (nx ?_)
  replace h := bind_some h; obtain ⟨y45, e46, h⟩ := h
  refine ex_lbr (fun (st : Int) s' w' => Has s' [(2, .pointer (some ⟨g1, 0, none⟩)), (3, .pointer (some ⟨g6, 0, none⟩)), (4, .bool false), (5, iv st)] ∧ St w H10 w' []) (fun r s' w' => FQ Try.prog Try.f16 40 (P1 .bool w r) .ret s' w') e46 ⟨⟨rfl, rfl, rfl, rfl, trivial⟩, HS⟩ ?_ ?_
  · rintro k_23 c' s' w24 ⟨hs_, HS⟩ h
    rw [has_put hs_]; clear hs_
    replace h : F_spec_EqualStructure_b1 a b k_23 = some c' := h
    unfold F_spec_EqualStructure_b1 at h
    refine ex_seq ?_
    refine ex_seq ?_
    refine ex_region ?_
    refine ro_lt (r_mv (v := iv k_23) rfl) rfl ?_
    refine ro_lt (r_fa (l4.sub HS.sub) fd27_0 rfl) rfl ?_
    refine ro_lt (r_ld ((l4.seg 0 1).sub HS.sub) sc24 rfl) rfl ?_
    refine ro_lt (r_len (n := 4) (r_a0.sub HS.sub) sl24 rfl) rfl ?_
    refine ro_lt (r_lss rfl rfl) rfl ?_
    refine RO.nil (nx ?_)
    replace h := ite_some h; rcases h with ⟨c25, h⟩ | ⟨c25, h⟩
    rotate_left
    · refine ex_if_f rfl (decide_eq_false c25) ?_
      refine ex_exit (tq_exit ?_)
      obtain rfl := Option.some.inj h
      exact lq_out ⟨⟨rfl, rfl, rfl, rfl, trivial⟩, HS⟩
    refine ex_if_t rfl (decide_eq_true c25) ?_
    refine ex_skip (nx ?_)
    refine ex_seq ?_
    refine ex_block ?_
    refine ex_seq ?_
    refine ex_dr (Mm H10 []) (fun _ => True) [0, 1, 0, 7, 15, 0, 32, 0, 224, 480, 1023, 2047] [10] (.op 0 (.op 1 (.op 2 (.op 3 (.op 4 (.op 5 (.op 6 (.op 7 (.op 8 (.op 9 (.op 10 (.op 11 .nil)))))))))))) mix (by kernel_rfl) (by kernel_rfl) ?_
    intro w26 hw hb; have HS := HS.ext hb; clear hw hb
    refine RT.lt rfl rfl rfl rfl (fun w' k => r_fa (l4.sub HS.sub) fd27_0 rfl) ?_
    refine RT.lt rfl rfl rfl rfl (fun w' k => r_ld ((l4.seg 0 1).kp HS.sub k.kp (mh rfl)) sc24 rfl) ?_
    refine RT.lt rfl rfl rfl rfl (fun w' k => r_mv (v := iv k_23) rfl) ?_
    replace h := grd_some h; obtain ⟨g27, h⟩ := h
    obtain ⟨_, q28, l29⟩ := r_a0.idx g27.1 g27.2
    obtain ⟨v30, v32, rfl, r31, r33⟩ := rd_K72 q28
    refine RT.lt rfl rfl rfl rfl (fun w' k => r_ia (r_a0.sub HS.sub) sl24 g27.1 g27.2 rfl rfl) ?_
    refine RT.lt rfl rfl rfl rfl (fun w' k => r_lda (l29.kp HS.sub k.kp (mh rfl)) ag72 rfl rfl) ?_
    refine RT.lt rfl rfl rfl rfl (fun w' k => r_fa (l9.sub HS.sub) fd27_0 rfl) ?_
    refine RT.lt rfl rfl rfl rfl (fun w' k => r_ld ((l9.seg 0 1).kp HS.sub k.kp (mh rfl)) sc24 rfl) ?_
    refine RT.lt rfl rfl rfl rfl (fun w' k => r_mv (v := iv k_23) rfl) ?_
    replace h := grd_some h; obtain ⟨g34, h⟩ := h
    obtain ⟨_, q35, l36⟩ := r_b0.idx g34.1 g34.2
    obtain ⟨v37, v39, rfl, r38, r40⟩ := rd_K72 q35
    refine RT.lt rfl rfl rfl rfl (fun w' k => r_ia (r_b0.sub HS.sub) sl24 g34.1 g34.2 rfl rfl) ?_
    refine RT.lt rfl rfl rfl rfl (fun w' k => r_lda (l36.kp HS.sub k.kp (mh rfl)) ag72 rfl rfl) ?_
    replace h := bind_some h; obtain ⟨y41, e42, h⟩ := h
    refine RT.hy rfl rfl rfl rfl rfl (o_cf (vs := [.agg #[v30, v32, iv ((((a.1.getD k_23.toNat (([] : List Int), ([] : List Int), 0, 0)).2).2).1), iv ((((a.1.getD k_23.toNat (([] : List Int), ([] : List Int), 0, 0)).2).2).2)], .agg #[v37, v39, iv ((((b.1.getD k_23.toNat (([] : List Int), ([] : List Int), 0, 0)).2).2).1), iv ((((b.1.getD k_23.toNat (([] : List Int), ([] : List Int), 0, 0)).2).2).2)]]) HS rfl (c_spec_l12SameNode (r31.sub HS.sub) (r33.sub HS.sub) (r38.sub HS.sub) (r40.sub HS.sub) e42) cf61 rfl) (fun _ _ ⟨_, hb, _⟩ => km_below hb (fun _ => trivial)) ?_
    rintro _ w43 ⟨rfl, hb, HS⟩
    refine RT.lt rfl rfl rfl rfl (fun w' k => r_not rfl) ?_
    refine RT.nil (nx ?_)
    replace h := ite_some h; rcases h with ⟨c44, h⟩ | ⟨c44, h⟩
    rotate_left
    · refine ex_if_t rfl (congrArg (!·) (bf c44)) ?_
      refine ex_seq ?_
      refine ex_region ?_
      refine ro_lt (r_as (v := .bool false) rfl) rfl ?_
      refine RO.nil (nx ?_)
      obtain rfl := Option.some.inj h
      refine ex_ret (blk_ret (tq_ret (lq_ret ?_)))
      exact ret1 (.inr rfl) rfl rfl (P1.of_flat HS hs rfl)
    refine ex_if_f rfl (congrArg (!·) (c44)) ?_
    refine ex_skip (blk_nx (nx ?_))
    refine ex_region ?_
    refine ro_lt (r_mv (v := iv k_23) rfl) rfl ?_
    refine ro_lt (r_addw rfl rfl) rfl ?_
    refine ro_lt (r_as (v := iv (wi (k_23 + 1))) rfl) rfl ?_
    refine RO.nil ?_
    obtain rfl := Option.some.inj h
    exact lq_go ⟨⟨rfl, rfl, rfl, rfl, trivial⟩, HS⟩
  rcases y45 with r49 | y45
  · intro s' w' hR
    obtain rfl := Option.some.inj h
    exact (tq_ret hR)
  rintro s' w47 ⟨hs_, HS⟩
  rw [has_put hs_]; clear hs_
  refine (nx ?_)
  refine ex_seq ?_
  refine ex_region ?_
  refine ro_lt (r_as (v := .bool true) rfl) rfl ?_
  refine RO.nil (nx ?_)
  obtain rfl := Option.some.inj h
  refine ex_ret ?_
  exact ret1 (.inr rfl) rfl rfl (P1.of_flat HS hs rfl)
theorem c_spec_l1In {w : World} {x : Int} {lo : Int} {hi : Int} {r : Bool} (h : F_spec_l1In x lo hi = some r) : Calls Try.prog 64 [iv x, iv lo, iv hi].toArray w (P1 .bool w r) := by
  unfold F_spec_l1In at h
  have HS := St.init w
  have hs := Sub.refl (hp w)
  refine calls_ex (n := 15) Try.func64 rfl Try.ntmps64 (Nat.le_of_ble_eq_true rfl) ?_
  refine ex_seq ?_
  refine ex_region ?_
  refine ro_lt (r_as (v := .bool false) rfl) rfl ?_
  refine RO.nil (nx ?_)
  refine ex_seq ?_
  refine ex_region ?_
  refine ro_lt (r_mv (v := iv x) rfl) rfl ?_
  refine ro_lt (r_mv (v := iv lo) rfl) rfl ?_
  refine ro_lt (r_geq rfl rfl) rfl ?_
  refine ro_lt (r_mv (v := .bool ((decide (x ≥ lo)))) rfl) rfl ?_
  replace h := ite_some h; rcases h with ⟨c1, h⟩ | ⟨c1, h⟩
  rotate_left
  · refine ro_off (sb (decide_eq_false c1)) rfl rfl ?_
    refine ro_off (sb (decide_eq_false c1)) rfl rfl ?_
    refine ro_off (sb (decide_eq_false c1)) rfl rfl ?_
    refine ro_lt (r_pickf (v := .bool false) (decide_eq_false c1) rfl rfl) rfl ?_
    refine ro_lt (r_as (v := .bool false) rfl) rfl ?_
    refine RO.nil (nx ?_)
    obtain rfl := Option.some.inj h
    refine ex_ret ?_
    exact ret1 (.inr rfl) rfl rfl (P1.of_flat HS hs rfl)
  refine ro_on (sb (decide_eq_true c1)) ?_
  refine ro_lt (r_mv (v := iv x) rfl) rfl ?_
  refine ro_on (sb (decide_eq_true c1)) ?_
  refine ro_lt (r_mv (v := iv hi) rfl) rfl ?_
  refine ro_on (sb (decide_eq_true c1)) ?_
  refine ro_lt (r_leq rfl rfl) rfl ?_
  refine ro_lt (r_pickt (v := .bool ((decide (x ≤ hi)))) (decide_eq_true c1) rfl rfl) rfl ?_
  refine ro_lt (r_as (v := .bool ((decide (x ≤ hi)))) rfl) rfl ?_
  refine RO.nil (nx ?_)
  obtain rfl := Option.some.inj h
  refine ex_ret ?_
  exact ret1 (.inr rfl) rfl rfl (P1.of_flat HS hs rfl)
theorem c_spec_IsTruth {w : World} {a : Int} {r : Bool} (h : F_spec_IsTruth a = some r) : Calls Try.prog 63 [iv a].toArray w (P1 .bool w r) := by
  unfold F_spec_IsTruth at h
  have HS := St.init w
  have hs := Sub.refl (hp w)
  refine calls_ex (n := 5) Try.func63 rfl Try.ntmps63 (Nat.le_of_ble_eq_true rfl) ?_
  refine ex_seq ?_
  refine ex_region ?_
  refine ro_lt (r_as (v := .bool false) rfl) rfl ?_
  refine RO.nil (nx ?_)
  refine ex_seq ?_
  refine ex_region ?_
  refine ro_lt (r_mv (v := iv a) rfl) rfl ?_
  replace h := bind_some h; obtain ⟨y1, e2, h⟩ := h
  refine ro_hy (o_cf (vs := [iv a, iv 0, iv 2]) HS rfl (c_spec_l1In e2) cf64 rfl) rfl ?_
  rintro _ w3 ⟨rfl, hb, HS⟩
  refine ro_lt (r_as (v := .bool y1) rfl) rfl ?_
  refine RO.nil (nx ?_)
  obtain rfl := Option.some.inj h
  refine ex_ret ?_
  exact ret1 (.inr rfl) rfl rfl (P1.of_flat HS hs rfl)
theorem c_spec_l12Truths {w : World} {list : List Int} {v_list : Value} (r_list : Rd (.sl 3 (.int .i64)) (hp w) list [v_list]) {r : Bool} (h : F_spec_l12Truths list = some r) : Calls Try.prog 62 [v_list].toArray w (P1 .bool w r) := by
  unfold F_spec_l12Truths at h
  have HS := St.init w
  have hs := Sub.refl (hp w)
  refine calls_ex (n := 16) Try.func62 rfl Try.ntmps62 (Nat.le_of_ble_eq_true rfl) ?_
  refine ex_seq ?_
  refine ex_region ?_
  refine ro_lt (r_as (v := .bool false) rfl) rfl ?_
  refine RO.nil (nx ?_)
  refine ex_seq ?_
  refine ex_seq ?_
  refine ex_region ?_
  refine ro_lt (r_as (v := iv 0) rfl) rfl ?_
  refine RO.nil (nx ?_)
  replace h := bind_some h; obtain ⟨y15, e16, h⟩ := h
  refine ex_lbr (fun (st : Int) s' w' => Has s' [(0, v_list), (2, .bool false), (3, iv st)] ∧ St w (hp w) w' []) (fun r s' w' => FQ Try.prog Try.f62 16 (P1 .bool w r) .ret s' w') e16 ⟨⟨rfl, rfl, rfl, trivial⟩, HS⟩ ?_ ?_
  · rintro k_6 c' s' w7 ⟨hs_, HS⟩ h
    rw [has_put hs_]; clear hs_
    replace h : F_spec_l12Truths_b1 list k_6 = some c' := h
    unfold F_spec_l12Truths_b1 at h
    refine ex_seq ?_
    refine ex_seq ?_
    refine ex_region ?_
    refine ro_lt (r_mv (v := iv k_6) rfl) rfl ?_
    refine ro_lt (r_mv (v := v_list) rfl) rfl ?_
    have b8 := (r_list.sub HS.sub).big
    refine ro_lt (r_len (n := 1) (r_list.sub HS.sub) sl25 rfl) rfl ?_
    refine ro_lt (r_lss rfl rfl) rfl ?_
    refine RO.nil (nx ?_)
    replace h := ite_some h; rcases h with ⟨c9, h⟩ | ⟨c9, h⟩
    rotate_left
    · refine ex_if_f rfl (decide_eq_false c9) ?_
      refine ex_exit (tq_exit ?_)
      obtain rfl := Option.some.inj h
      exact lq_out ⟨⟨rfl, rfl, rfl, trivial⟩, HS⟩
    refine ex_if_t rfl (decide_eq_true c9) ?_
    refine ex_skip (nx ?_)
    refine ex_seq ?_
    refine ex_block ?_
    refine ex_seq ?_
    refine ex_region ?_
    refine ro_lt (r_mv (v := v_list) rfl) rfl ?_
    refine ro_lt (r_mv (v := iv k_6) rfl) rfl ?_
    replace h := grd_some h; obtain ⟨g10, h⟩ := h
    refine ro_lt (r_ia (r_list.sub HS.sub) sl25 g10.1 g10.2 rfl rfl) rfl ?_
    refine ro_lt (r_ld ((r_list.int g10.1 g10.2).sub HS.sub) sc3 rfl) rfl ?_
    replace h := bind_some h; obtain ⟨y11, e12, h⟩ := h
    refine ro_hy (o_cf (vs := [iv (list.getD k_6.toNat 0)]) HS rfl (c_spec_IsTruth e12) cf63 rfl) rfl ?_
    rintro _ w13 ⟨rfl, hb, HS⟩
    refine ro_lt (r_not rfl) rfl ?_
    refine RO.nil (nx ?_)
    replace h := ite_some h; rcases h with ⟨c14, h⟩ | ⟨c14, h⟩
    rotate_left
    · refine ex_if_t rfl (congrArg (!·) (bf c14)) ?_
      refine ex_seq ?_
      refine ex_region ?_
      refine ro_lt (r_as (v := .bool false) rfl) rfl ?_
      refine RO.nil (nx ?_)
      obtain rfl := Option.some.inj h
      refine ex_ret (blk_ret (tq_ret (lq_ret ?_)))
      exact ret1 (.inr rfl) rfl rfl (P1.of_flat HS hs rfl)
    refine ex_if_f rfl (congrArg (!·) (c14)) ?_
    refine ex_skip (blk_nx (nx ?_))
    refine ex_region ?_
    refine ro_lt (r_mv (v := iv k_6) rfl) rfl ?_
    refine ro_lt (r_addw rfl rfl) rfl ?_
    refine ro_lt (r_as (v := iv (wi (k_6 + 1))) rfl) rfl ?_
    refine RO.nil ?_
    obtain rfl := Option.some.inj h
    exact lq_go ⟨⟨rfl, rfl, rfl, trivial⟩, HS⟩
  rcases y15 with r19 | y15
  · intro s' w' hR
    obtain rfl := Option.some.inj h
    exact (tq_ret hR)
  rintro s' w17 ⟨hs_, HS⟩
  rw [has_put hs_]; clear hs_
  refine (nx ?_)
  refine ex_seq ?_
  refine ex_region ?_
  refine ro_lt (r_as (v := .bool true) rfl) rfl ?_
  refine RO.nil (nx ?_)
  obtain rfl := Option.some.inj h
  refine ex_ret ?_
  exact ret1 (.inr rfl) rfl rfl (P1.of_flat HS hs rfl)
theorem c_spec_IsStructure {w : World} {vars : Int} {s : (List (List Int × List Int × Int × Int)) × List Int} {v_s0 : Value} {v_s1 : Value} (r_s0 : Rd (.sl 72 (.prod (.sl 3 (.int .i64)) (.prod (.sl 3 (.int .i64)) (.prod (.int .i64) (.int .i64))))) (hp w) s.1 [v_s0]) (r_s1 : Rd (.sl 3 (.int .i64)) (hp w) s.2 [v_s1]) {r : Bool} (h : F_spec_IsStructure vars s = some r) : Calls Try.prog 17 [iv vars, .agg #[v_s0, v_s1]].toArray w (P1 .bool w r) := by
  unfold F_spec_IsStructure at h
  have HS := St.init w
  have hs := Sub.refl (hp w)
  refine calls_ex (n := 77) Try.func17 rfl Try.ntmps17 (Nat.le_of_ble_eq_true rfl) ?_
  refine ex_seq ?_
  refine ex_region ?_
  refine ro_hy (o_boxz HS (cs := [v_s0, v_s1]) rfl rfl) rfl ?_
  rintro _ w2 ⟨g1, H5, rfl, q3, l4, hb, HS⟩
  replace r_s0 := r_s0.sub q3
  replace r_s1 := r_s1.sub q3
  replace hs := hs.trans q3
  refine ro_lt (r_as (v := .bool false) rfl) rfl ?_
  refine RO.nil (nx ?_)
  refine ex_seq ?_
  refine ex_region ?_
  refine ro_lt (r_fa (l4.sub HS.sub) fd27_0 rfl) rfl ?_
  refine ro_lt (r_ld ((l4.seg 0 1).sub HS.sub) sc24 rfl) rfl ?_
  have b6 := (r_s0.sub HS.sub).big
  refine ro_lt (r_len (n := 4) (r_s0.sub HS.sub) sl24 rfl) rfl ?_
  refine ro_lt (r_as (v := iv ((s.1.length : Int))) rfl) rfl ?_
  refine RO.nil (nx ?_)
  refine ex_seq ?_
  refine ex_seq ?_
  refine ex_region ?_
  refine ro_lt (r_as (v := iv 0) rfl) rfl ?_
  refine RO.nil (nx ?_)
  replace h := bind_some h; obtain ⟨y47, e48, h⟩ := h
  refine ex_lbr (fun (st : Int) s' w' => Has s' [(0, iv vars), (3, .pointer (some ⟨g1, 0, none⟩)), (4, .bool false), (5, iv ((s.1.length : Int))), (6, iv st)] ∧ St w H5 w' []) (fun r s' w' => FQ Try.prog Try.f17 77 (P1 .bool w r) .ret s' w') e48 ⟨⟨rfl, rfl, rfl, rfl, rfl, trivial⟩, HS⟩ ?_ ?_
  · rintro k_12 c' s' w13 ⟨hs_, HS⟩ h
    rw [has_put hs_]; clear hs_
    replace h : F_spec_IsStructure_b1 s vars k_12 = some c' := h
    unfold F_spec_IsStructure_b1 at h
    refine ex_seq ?_
    refine ex_seq ?_
    refine ex_region ?_
    refine ro_lt (r_mv (v := iv k_12) rfl) rfl ?_
    refine ro_lt (r_mv (v := iv ((s.1.length : Int))) rfl) rfl ?_
    refine ro_lt (r_lss rfl rfl) rfl ?_
    refine RO.nil (nx ?_)
    replace h := ite_some h; rcases h with ⟨c14, h⟩ | ⟨c14, h⟩
    rotate_left
    · refine ex_if_f rfl (decide_eq_false c14) ?_
      refine ex_exit (tq_exit ?_)
      obtain rfl := Option.some.inj h
      exact lq_out ⟨⟨rfl, rfl, rfl, rfl, rfl, trivial⟩, HS⟩
    refine ex_if_t rfl (decide_eq_true c14) ?_
    refine ex_skip (nx ?_)
    refine ex_seq ?_
    refine ex_block ?_
    refine ex_seq ?_
    refine ex_region ?_
    refine ro_lt (r_fa (l4.sub HS.sub) fd27_0 rfl) rfl ?_
    refine ro_lt (r_ld ((l4.seg 0 1).sub HS.sub) sc24 rfl) rfl ?_
    refine ro_lt (r_mv (v := iv k_12) rfl) rfl ?_
    replace h := grd_some h; obtain ⟨g15, h⟩ := h
    obtain ⟨_, q16, l17⟩ := r_s0.idx g15.1 g15.2
    obtain ⟨v18, v20, rfl, r19, r21⟩ := rd_K72 q16
    refine ro_lt (r_ia (r_s0.sub HS.sub) sl24 g15.1 g15.2 rfl rfl) rfl ?_
    refine ro_lt (r_lda (l17.sub HS.sub) ag72 rfl rfl) rfl ?_
    refine ro_hy (o_alloc HS (cs := [.slice none 0 0, .slice none 0 0, iv 0, iv 0]) ze72 rfl) rfl ?_
    rintro _ w23 ⟨g22, rfl, hb, HS⟩
    refine ro_hy (o_str (off := 0) (vs := [v18, v20, iv ((((s.1.getD k_12.toNat (([] : List Int), ([] : List Int), 0, 0)).2).2).1), iv ((((s.1.getD k_12.toNat (([] : List Int), ([] : List Int), 0, 0)).2).2).2)]) (l' := [v18, v20, iv ((((s.1.getD k_12.toNat (([] : List Int), ([] : List Int), 0, 0)).2).2).1), iv ((((s.1.getD k_12.toNat (([] : List Int), ([] : List Int), 0, 0)).2).2).2)]) HS rfl rfl rfl st72 rfl rfl (pl (r19.sub HS.sub).pl (pl (r21.sub HS.sub).pl (pl rfl (pl rfl pl0)))) rfl) rfl ?_
    rintro _ w25 ⟨rfl, hk, HS⟩
    refine RO.nil (nx ?_)
    refine ex_seq ?_
    refine ex_region ?_
    refine ro_lt (r_fa (HS.boxAt 0 rfl) fd72_0 rfl) rfl ?_
    refine ro_lt (r_ld ((HS.boxAt 0 rfl).seg 0 1) sc25 rfl) rfl ?_
    have b27 := (r19.sub HS.sub).big
    refine ro_lt (r_len (n := 1) (r19.sub HS.sub) sl25 rfl) rfl ?_
    refine ro_lt (r_mv (v := iv vars) rfl) rfl ?_
    refine ro_lt (r_neq rfl rfl) rfl ?_
    refine ro_lt (r_mv (v := .bool ((!(decide ((((s.1.getD k_12.toNat (([] : List Int), ([] : List Int), 0, 0)).1).length : Int) = vars))))) rfl) rfl ?_
    replace h := ite_some h; rcases h with ⟨c28, h⟩ | ⟨c28, h⟩
    rotate_left
    · refine ro_off (sb (congrArg (!·) (decide_eq_false c28))) rfl rfl ?_
      refine ro_off (sb (congrArg (!·) (decide_eq_false c28))) rfl rfl ?_
      refine ro_off (sb (congrArg (!·) (decide_eq_false c28))) rfl rfl ?_
      refine ro_off (sb (congrArg (!·) (decide_eq_false c28))) rfl rfl ?_
      refine ro_off (sb (congrArg (!·) (decide_eq_false c28))) rfl rfl ?_
      refine ro_lt (r_pickt (v := .bool true) (congrArg (!·) (decide_eq_false c28)) rfl rfl) rfl ?_
      refine ro_lt (r_mv (v := .bool true) rfl) rfl ?_
      refine ro_off (sb (rfl)) rfl rfl ?_
      refine ro_off (sb (rfl)) rfl rfl ?_
      refine ro_off (sb (rfl)) rfl rfl ?_
      refine ro_off (sb (rfl)) rfl rfl ?_
      refine ro_lt (r_pickt (v := .bool true) (rfl) rfl rfl) rfl ?_
      refine ro_lt (r_mv (v := .bool true) rfl) rfl ?_
      refine ro_off (sb (rfl)) rfl rfl ?_
      refine ro_off (sb (rfl)) rfl rfl ?_
      refine ro_off (sb (rfl)) rfl rfl ?_
      refine ro_off (sb (rfl)) rfl rfl ?_
      refine ro_lt (r_pickt (v := .bool true) (rfl) rfl rfl) rfl ?_
      refine ro_lt (r_mv (v := .bool true) rfl) rfl ?_
      refine ro_off (sb (rfl)) rfl rfl ?_
      refine ro_off (sb (rfl)) rfl rfl ?_
      refine ro_off (sb (rfl)) rfl rfl ?_
      refine ro_off (sb (rfl)) rfl rfl ?_
      refine ro_lt (r_pickt (v := .bool true) (rfl) rfl rfl) rfl ?_
      refine ro_lt (r_mv (v := .bool true) rfl) rfl ?_
      refine ro_off (sb (rfl)) rfl rfl ?_
      refine ro_off (sb (rfl)) rfl rfl ?_
      refine ro_off (sb (rfl)) rfl rfl ?_
      refine ro_off (sb (rfl)) rfl rfl ?_
      refine ro_lt (r_pickt (v := .bool true) (rfl) rfl rfl) rfl ?_
      refine RO.nil (nx ?_)
      refine ex_if_t rfl (rfl) ?_
      refine ex_seq ?_
      refine ex_region ?_
      refine ro_lt (r_as (v := .bool false) rfl) rfl ?_
      refine RO.nil (nx ?_)
      obtain rfl := Option.some.inj h
      refine ex_ret (blk_ret (tq_ret (lq_ret ?_)))
      exact ret1 (.inr rfl) rfl rfl (P1.of_flat HS hs rfl)
    refine ro_on (sb (congrArg (!·) (decide_eq_true c28))) ?_
    refine ro_lt (r_fa (HS.boxAt 0 rfl) fd72_1 rfl) rfl ?_
    refine ro_on (sb (congrArg (!·) (decide_eq_true c28))) ?_
    refine ro_lt (r_ld ((HS.boxAt 0 rfl).seg 1 1) sc25 rfl) rfl ?_
    have b29 := (r21.sub HS.sub).big
    refine ro_on (sb (congrArg (!·) (decide_eq_true c28))) ?_
    refine ro_lt (r_len (n := 1) (r21.sub HS.sub) sl25 rfl) rfl ?_
    refine ro_on (sb (congrArg (!·) (decide_eq_true c28))) ?_
    refine ro_lt (r_mv (v := iv vars) rfl) rfl ?_
    refine ro_on (sb (congrArg (!·) (decide_eq_true c28))) ?_
    refine ro_lt (r_neq rfl rfl) rfl ?_
    refine ro_lt (r_pickf (v := .bool ((!(decide (((((s.1.getD k_12.toNat (([] : List Int), ([] : List Int), 0, 0)).2).1).length : Int) = vars))))) (congrArg (!·) (decide_eq_true c28)) rfl rfl) rfl ?_
    refine ro_lt (r_mv (v := .bool ((!(decide (((((s.1.getD k_12.toNat (([] : List Int), ([] : List Int), 0, 0)).2).1).length : Int) = vars))))) rfl) rfl ?_
    replace h := ite_some h; rcases h with ⟨c30, h⟩ | ⟨c30, h⟩
    rotate_left
    · refine ro_off (sb (congrArg (!·) (decide_eq_false c30))) rfl rfl ?_
      refine ro_off (sb (congrArg (!·) (decide_eq_false c30))) rfl rfl ?_
      refine ro_off (sb (congrArg (!·) (decide_eq_false c30))) rfl rfl ?_
      refine ro_off (sb (congrArg (!·) (decide_eq_false c30))) rfl rfl ?_
      refine ro_lt (r_pickt (v := .bool true) (congrArg (!·) (decide_eq_false c30)) rfl rfl) rfl ?_
      refine ro_lt (r_mv (v := .bool true) rfl) rfl ?_
      refine ro_off (sb (rfl)) rfl rfl ?_
      refine ro_off (sb (rfl)) rfl rfl ?_
      refine ro_off (sb (rfl)) rfl rfl ?_
      refine ro_off (sb (rfl)) rfl rfl ?_
      refine ro_lt (r_pickt (v := .bool true) (rfl) rfl rfl) rfl ?_
      refine ro_lt (r_mv (v := .bool true) rfl) rfl ?_
      refine ro_off (sb (rfl)) rfl rfl ?_
      refine ro_off (sb (rfl)) rfl rfl ?_
      refine ro_off (sb (rfl)) rfl rfl ?_
      refine ro_off (sb (rfl)) rfl rfl ?_
      refine ro_lt (r_pickt (v := .bool true) (rfl) rfl rfl) rfl ?_
      refine ro_lt (r_mv (v := .bool true) rfl) rfl ?_
      refine ro_off (sb (rfl)) rfl rfl ?_
      refine ro_off (sb (rfl)) rfl rfl ?_
      refine ro_off (sb (rfl)) rfl rfl ?_
      refine ro_off (sb (rfl)) rfl rfl ?_
      refine ro_lt (r_pickt (v := .bool true) (rfl) rfl rfl) rfl ?_
      refine RO.nil (nx ?_)
      refine ex_if_t rfl (rfl) ?_
      refine ex_seq ?_
      refine ex_region ?_
      refine ro_lt (r_as (v := .bool false) rfl) rfl ?_
      refine RO.nil (nx ?_)
      obtain rfl := Option.some.inj h
      refine ex_ret (blk_ret (tq_ret (lq_ret ?_)))
      exact ret1 (.inr rfl) rfl rfl (P1.of_flat HS hs rfl)
    refine ro_on (sb (congrArg (!·) (decide_eq_true c30))) ?_
    refine ro_lt (r_fa (HS.boxAt 0 rfl) fd72_0 rfl) rfl ?_
    refine ro_on (sb (congrArg (!·) (decide_eq_true c30))) ?_
    refine ro_lt (r_ld ((HS.boxAt 0 rfl).seg 0 1) sc25 rfl) rfl ?_
    replace h := bind_some h; obtain ⟨y31, e32, h⟩ := h
    refine ro_on (sb (congrArg (!·) (decide_eq_true c30))) ?_
    refine ro_hy (o_cf (vs := [v18]) HS rfl (c_spec_l12Truths (r19.sub HS.sub) e32) cf62 rfl) rfl ?_
    rintro _ w33 ⟨rfl, hb, HS⟩
    refine ro_on (sb (congrArg (!·) (decide_eq_true c30))) ?_
    refine ro_lt (r_not rfl) rfl ?_
    refine ro_lt (r_pickf (v := .bool ((!y31))) (congrArg (!·) (decide_eq_true c30)) rfl rfl) rfl ?_
    refine ro_lt (r_mv (v := .bool ((!y31))) rfl) rfl ?_
    replace h := ite_some h; rcases h with ⟨c34, h⟩ | ⟨c34, h⟩
    rotate_left
    · refine ro_off (sb (congrArg (!·) (bf c34))) rfl rfl ?_
      refine ro_off (sb (congrArg (!·) (bf c34))) rfl rfl ?_
      refine ro_off (sb (congrArg (!·) (bf c34))) rfl rfl ?_
      refine ro_off (sb (congrArg (!·) (bf c34))) rfl rfl ?_
      refine ro_lt (r_pickt (v := .bool true) (congrArg (!·) (bf c34)) rfl rfl) rfl ?_
      refine ro_lt (r_mv (v := .bool true) rfl) rfl ?_
      refine ro_off (sb (rfl)) rfl rfl ?_
      refine ro_off (sb (rfl)) rfl rfl ?_
      refine ro_off (sb (rfl)) rfl rfl ?_
      refine ro_off (sb (rfl)) rfl rfl ?_
      refine ro_lt (r_pickt (v := .bool true) (rfl) rfl rfl) rfl ?_
      refine ro_lt (r_mv (v := .bool true) rfl) rfl ?_
      refine ro_off (sb (rfl)) rfl rfl ?_
      refine ro_off (sb (rfl)) rfl rfl ?_
      refine ro_off (sb (rfl)) rfl rfl ?_
      refine ro_off (sb (rfl)) rfl rfl ?_
      refine ro_lt (r_pickt (v := .bool true) (rfl) rfl rfl) rfl ?_
      refine RO.nil (nx ?_)
      refine ex_if_t rfl (rfl) ?_
      refine ex_seq ?_
      refine ex_region ?_
      refine ro_lt (r_as (v := .bool false) rfl) rfl ?_
      refine RO.nil (nx ?_)
      obtain rfl := Option.some.inj h
      refine ex_ret (blk_ret (tq_ret (lq_ret ?_)))
      exact ret1 (.inr rfl) rfl rfl (P1.of_flat HS hs rfl)
    refine ro_on (sb (congrArg (!·) (c34))) ?_
    refine ro_lt (r_fa (HS.boxAt 0 rfl) fd72_1 rfl) rfl ?_
    refine ro_on (sb (congrArg (!·) (c34))) ?_
    refine ro_lt (r_ld ((HS.boxAt 0 rfl).seg 1 1) sc25 rfl) rfl ?_
    replace h := bind_some h; obtain ⟨y35, e36, h⟩ := h
    refine ro_on (sb (congrArg (!·) (c34))) ?_
    refine ro_hy (o_cf (vs := [v20]) HS rfl (c_spec_l12Truths (r21.sub HS.sub) e36) cf62 rfl) rfl ?_
    rintro _ w37 ⟨rfl, hb, HS⟩
    refine ro_on (sb (congrArg (!·) (c34))) ?_
    refine ro_lt (r_not rfl) rfl ?_
    refine ro_lt (r_pickf (v := .bool ((!y35))) (congrArg (!·) (c34)) rfl rfl) rfl ?_
    refine ro_lt (r_mv (v := .bool ((!y35))) rfl) rfl ?_
    replace h := ite_some h; rcases h with ⟨c38, h⟩ | ⟨c38, h⟩
    rotate_left
    · refine ro_off (sb (congrArg (!·) (bf c38))) rfl rfl ?_
      refine ro_off (sb (congrArg (!·) (bf c38))) rfl rfl ?_
      refine ro_off (sb (congrArg (!·) (bf c38))) rfl rfl ?_
      refine ro_off (sb (congrArg (!·) (bf c38))) rfl rfl ?_
      refine ro_lt (r_pickt (v := .bool true) (congrArg (!·) (bf c38)) rfl rfl) rfl ?_
      refine ro_lt (r_mv (v := .bool true) rfl) rfl ?_
      refine ro_off (sb (rfl)) rfl rfl ?_
      refine ro_off (sb (rfl)) rfl rfl ?_
      refine ro_off (sb (rfl)) rfl rfl ?_
      refine ro_off (sb (rfl)) rfl rfl ?_
      refine ro_lt (r_pickt (v := .bool true) (rfl) rfl rfl) rfl ?_
      refine RO.nil (nx ?_)
      refine ex_if_t rfl (rfl) ?_
      refine ex_seq ?_
      refine ex_region ?_
      refine ro_lt (r_as (v := .bool false) rfl) rfl ?_
      refine RO.nil (nx ?_)
      obtain rfl := Option.some.inj h
      refine ex_ret (blk_ret (tq_ret (lq_ret ?_)))
      exact ret1 (.inr rfl) rfl rfl (P1.of_flat HS hs rfl)
    refine ro_on (sb (congrArg (!·) (c38))) ?_
    refine ro_lt (r_fa (HS.boxAt 0 rfl) fd72_2 rfl) rfl ?_
    refine ro_on (sb (congrArg (!·) (c38))) ?_
    refine ro_lt (r_ld ((HS.boxAt 0 rfl).seg 2 1) sc3 rfl) rfl ?_
    replace h := bind_some h; obtain ⟨y39, e40, h⟩ := h
    refine ro_on (sb (congrArg (!·) (c38))) ?_
    refine ro_hy (o_cf (vs := [iv ((((s.1.getD k_12.toNat (([] : List Int), ([] : List Int), 0, 0)).2).2).1)]) HS rfl (c_spec_IsTruth e40) cf63 rfl) rfl ?_
    rintro _ w41 ⟨rfl, hb, HS⟩
    refine ro_on (sb (congrArg (!·) (c38))) ?_
    refine ro_lt (r_not rfl) rfl ?_
    refine ro_lt (r_pickf (v := .bool ((!y39))) (congrArg (!·) (c38)) rfl rfl) rfl ?_
    refine ro_lt (r_mv (v := .bool ((!y39))) rfl) rfl ?_
    replace h := ite_some h; rcases h with ⟨c42, h⟩ | ⟨c42, h⟩
    rotate_left
    · refine ro_off (sb (congrArg (!·) (bf c42))) rfl rfl ?_
      refine ro_off (sb (congrArg (!·) (bf c42))) rfl rfl ?_
      refine ro_off (sb (congrArg (!·) (bf c42))) rfl rfl ?_
      refine ro_off (sb (congrArg (!·) (bf c42))) rfl rfl ?_
      refine ro_lt (r_pickt (v := .bool true) (congrArg (!·) (bf c42)) rfl rfl) rfl ?_
      refine RO.nil (nx ?_)
      refine ex_if_t rfl (rfl) ?_
      refine ex_seq ?_
      refine ex_region ?_
      refine ro_lt (r_as (v := .bool false) rfl) rfl ?_
      refine RO.nil (nx ?_)
      obtain rfl := Option.some.inj h
      refine ex_ret (blk_ret (tq_ret (lq_ret ?_)))
      exact ret1 (.inr rfl) rfl rfl (P1.of_flat HS hs rfl)
    refine ro_on (sb (congrArg (!·) (c42))) ?_
    refine ro_lt (r_fa (HS.boxAt 0 rfl) fd72_3 rfl) rfl ?_
    refine ro_on (sb (congrArg (!·) (c42))) ?_
    refine ro_lt (r_ld ((HS.boxAt 0 rfl).seg 3 1) sc3 rfl) rfl ?_
    replace h := bind_some h; obtain ⟨y43, e44, h⟩ := h
    refine ro_on (sb (congrArg (!·) (c42))) ?_
    refine ro_hy (o_cf (vs := [iv ((((s.1.getD k_12.toNat (([] : List Int), ([] : List Int), 0, 0)).2).2).2), iv 0, iv 1]) HS rfl (c_spec_l1In e44) cf64 rfl) rfl ?_
    rintro _ w45 ⟨rfl, hb, HS⟩
    refine ro_on (sb (congrArg (!·) (c42))) ?_
    refine ro_lt (r_not rfl) rfl ?_
    refine ro_lt (r_pickf (v := .bool ((!y43))) (congrArg (!·) (c42)) rfl rfl) rfl ?_
    refine RO.nil (nx ?_)
    replace h := ite_some h; rcases h with ⟨c46, h⟩ | ⟨c46, h⟩
    rotate_left
    · refine ex_if_t rfl (congrArg (!·) (bf c46)) ?_
      refine ex_seq ?_
      refine ex_region ?_
      refine ro_lt (r_as (v := .bool false) rfl) rfl ?_
      refine RO.nil (nx ?_)
      obtain rfl := Option.some.inj h
      refine ex_ret (blk_ret (tq_ret (lq_ret ?_)))
      exact ret1 (.inr rfl) rfl rfl (P1.of_flat HS hs rfl)
    refine ex_if_f rfl (congrArg (!·) (c46)) ?_
    refine ex_skip (blk_nx (nx ?_))
    refine ex_region ?_
    refine ro_lt (r_mv (v := iv k_12) rfl) rfl ?_
    refine ro_lt (r_addw rfl rfl) rfl ?_
    refine ro_lt (r_as (v := iv (wi (k_12 + 1))) rfl) rfl ?_
    refine RO.nil ?_
    obtain rfl := Option.some.inj h
    exact lq_go ⟨⟨rfl, rfl, rfl, rfl, rfl, trivial⟩, (HS.sel (G := []) [] 1 rfl)⟩
  rcases y47 with r61 | y47
  · intro s' w' hR
    obtain rfl := Option.some.inj h
    exact (tq_ret hR)
  rintro s' w49 ⟨hs_, HS⟩
  rw [has_put hs_]; clear hs_
  refine (nx ?_)
  refine ex_seq ?_
  refine ex_region ?_
  refine ro_lt (r_mv (v := iv vars) rfl) rfl ?_
  replace h := bind_some h; obtain ⟨y51, e52, h⟩ := h
  refine ro_hy (o_cf (vs := [iv vars, iv 1, iv 4]) HS rfl (c_spec_l1In e52) cf64 rfl) rfl ?_
  rintro _ w53 ⟨rfl, hb, HS⟩
  refine ro_lt (r_mv (v := .bool y51) rfl) rfl ?_
  replace h := ite_some h; rcases h with ⟨c54, h⟩ | ⟨c54, h⟩
  rotate_left
  · refine ro_off (sb (bf c54)) rfl rfl ?_
    refine ro_off (sb (bf c54)) rfl rfl ?_
    refine ro_lt (r_pickf (v := .bool false) (bf c54) rfl rfl) rfl ?_
    refine ro_lt (r_mv (v := .bool false) rfl) rfl ?_
    refine ro_off (sb (rfl)) rfl rfl ?_
    refine ro_off (sb (rfl)) rfl rfl ?_
    refine ro_off (sb (rfl)) rfl rfl ?_
    refine ro_off (sb (rfl)) rfl rfl ?_
    refine ro_off (sb (rfl)) rfl rfl ?_
    refine ro_off (sb (rfl)) rfl rfl ?_
    refine ro_off (sb (rfl)) rfl rfl ?_
    refine ro_lt (r_pickf (v := .bool false) (rfl) rfl rfl) rfl ?_
    refine ro_lt (r_mv (v := .bool false) rfl) rfl ?_
    refine ro_off (sb (rfl)) rfl rfl ?_
    refine ro_off (sb (rfl)) rfl rfl ?_
    refine ro_off (sb (rfl)) rfl rfl ?_
    refine ro_lt (r_pickf (v := .bool false) (rfl) rfl rfl) rfl ?_
    refine ro_lt (r_as (v := .bool false) rfl) rfl ?_
    refine RO.nil (nx ?_)
    obtain rfl := Option.some.inj h
    refine ex_ret ?_
    exact ret1 (.inr rfl) rfl rfl (P1.of_flat HS hs rfl)
  refine ro_on (sb (c54)) ?_
  refine ro_lt (r_mv (v := iv ((s.1.length : Int))) rfl) rfl ?_
  refine ro_on (sb (c54)) ?_
  refine ro_lt (r_leq rfl rfl) rfl ?_
  refine ro_lt (r_pickt (v := .bool ((decide ((s.1.length : Int) ≤ 10)))) (c54) rfl rfl) rfl ?_
  refine ro_lt (r_mv (v := .bool ((decide ((s.1.length : Int) ≤ 10)))) rfl) rfl ?_
  replace h := ite_some h; rcases h with ⟨c55, h⟩ | ⟨c55, h⟩
  rotate_left
  · refine ro_off (sb (decide_eq_false c55)) rfl rfl ?_
    refine ro_off (sb (decide_eq_false c55)) rfl rfl ?_
    refine ro_off (sb (decide_eq_false c55)) rfl rfl ?_
    refine ro_off (sb (decide_eq_false c55)) rfl rfl ?_
    refine ro_off (sb (decide_eq_false c55)) rfl rfl ?_
    refine ro_off (sb (decide_eq_false c55)) rfl rfl ?_
    refine ro_off (sb (decide_eq_false c55)) rfl rfl ?_
    refine ro_lt (r_pickf (v := .bool false) (decide_eq_false c55) rfl rfl) rfl ?_
    refine ro_lt (r_mv (v := .bool false) rfl) rfl ?_
    refine ro_off (sb (rfl)) rfl rfl ?_
    refine ro_off (sb (rfl)) rfl rfl ?_
    refine ro_off (sb (rfl)) rfl rfl ?_
    refine ro_lt (r_pickf (v := .bool false) (rfl) rfl rfl) rfl ?_
    refine ro_lt (r_as (v := .bool false) rfl) rfl ?_
    refine RO.nil (nx ?_)
    obtain rfl := Option.some.inj h
    refine ex_ret ?_
    exact ret1 (.inr rfl) rfl rfl (P1.of_flat HS hs rfl)
  refine ro_on (sb (decide_eq_true c55)) ?_
  refine ro_lt (r_fa (l4.sub HS.sub) fd27_1 rfl) rfl ?_
  refine ro_on (sb (decide_eq_true c55)) ?_
  refine ro_lt (r_ld ((l4.seg 1 1).sub HS.sub) sc25 rfl) rfl ?_
  have b56 := (r_s1.sub HS.sub).big
  refine ro_on (sb (decide_eq_true c55)) ?_
  refine ro_lt (r_len (n := 1) (r_s1.sub HS.sub) sl25 rfl) rfl ?_
  refine ro_on (sb (decide_eq_true c55)) ?_
  refine ro_lt (r_mv (v := iv ((s.1.length : Int))) rfl) rfl ?_
  refine ro_on (sb (decide_eq_true c55)) ?_
  refine ro_lt (r_mv (v := iv ((s.1.length : Int))) rfl) rfl ?_
  refine ro_on (sb (decide_eq_true c55)) ?_
  refine ro_lt (r_mulw rfl rfl) rfl ?_
  refine ro_on (sb (decide_eq_true c55)) ?_
  refine ro_lt (r_eql rfl rfl) rfl ?_
  refine ro_lt (r_pickt (v := .bool ((decide ((s.2.length : Int) = wi ((s.1.length : Int) * (s.1.length : Int)))))) (decide_eq_true c55) rfl rfl) rfl ?_
  refine ro_lt (r_mv (v := .bool ((decide ((s.2.length : Int) = wi ((s.1.length : Int) * (s.1.length : Int)))))) rfl) rfl ?_
  replace h := ite_some h; rcases h with ⟨c57, h⟩ | ⟨c57, h⟩
  rotate_left
  · refine ro_off (sb (decide_eq_false c57)) rfl rfl ?_
    refine ro_off (sb (decide_eq_false c57)) rfl rfl ?_
    refine ro_off (sb (decide_eq_false c57)) rfl rfl ?_
    refine ro_lt (r_pickf (v := .bool false) (decide_eq_false c57) rfl rfl) rfl ?_
    refine ro_lt (r_as (v := .bool false) rfl) rfl ?_
    refine RO.nil (nx ?_)
    obtain rfl := Option.some.inj h
    refine ex_ret ?_
    exact ret1 (.inr rfl) rfl rfl (P1.of_flat HS hs rfl)
  refine ro_on (sb (decide_eq_true c57)) ?_
  refine ro_lt (r_fa (l4.sub HS.sub) fd27_1 rfl) rfl ?_
  refine ro_on (sb (decide_eq_true c57)) ?_
  refine ro_lt (r_ld ((l4.seg 1 1).sub HS.sub) sc25 rfl) rfl ?_
  replace h := bind_some h; obtain ⟨y58, e59, h⟩ := h
  refine ro_on (sb (decide_eq_true c57)) ?_
  refine ro_hy (o_cf (vs := [v_s1]) HS rfl (c_spec_l12Truths (r_s1.sub HS.sub) e59) cf62 rfl) rfl ?_
  rintro _ w60 ⟨rfl, hb, HS⟩
  refine ro_lt (r_pickt (v := .bool y58) (decide_eq_true c57) rfl rfl) rfl ?_
  refine ro_lt (r_as (v := .bool y58) rfl) rfl ?_
  refine RO.nil (nx ?_)
  obtain rfl := Option.some.inj h
  refine ex_ret ?_
  exact ret1 (.inr rfl) rfl rfl (P1.of_flat HS hs rfl)
theorem c_spec_l15Vars {w : World} {s : (List (List Int × List Int × Int × Int)) × List Int} {v_s0 : Value} {v_s1 : Value} (r_s0 : Rd (.sl 72 (.prod (.sl 3 (.int .i64)) (.prod (.sl 3 (.int .i64)) (.prod (.int .i64) (.int .i64))))) (hp w) s.1 [v_s0]) (r_s1 : Rd (.sl 3 (.int .i64)) (hp w) s.2 [v_s1]) {r : Int} (h : F_spec_l15Vars s = some r) : Calls Try.prog 54 [.agg #[v_s0, v_s1]].toArray w (P1 (.int .i64) w r) := by
  unfold F_spec_l15Vars at h
  have HS := St.init w
  have hs := Sub.refl (hp w)
  refine calls_ex (n := 13) Try.func54 rfl Try.ntmps54 (Nat.le_of_ble_eq_true rfl) ?_
  refine ex_seq ?_
  refine ex_region ?_
  refine ro_hy (o_boxz HS (cs := [v_s0, v_s1]) rfl rfl) rfl ?_
  rintro _ w2 ⟨g1, H5, rfl, q3, l4, hb, HS⟩
  replace r_s0 := r_s0.sub q3
  replace r_s1 := r_s1.sub q3
  replace hs := hs.trans q3
  refine ro_lt (r_as (v := iv 0) rfl) rfl ?_
  refine RO.nil (nx ?_)
  refine ex_seq ?_
  refine ex_seq ?_
  refine ex_region ?_
  refine ro_lt (r_fa (l4.sub HS.sub) fd27_0 rfl) rfl ?_
  refine ro_lt (r_ld ((l4.seg 0 1).sub HS.sub) sc24 rfl) rfl ?_
  have b6 := (r_s0.sub HS.sub).big
  refine ro_lt (r_len (n := 4) (r_s0.sub HS.sub) sl24 rfl) rfl ?_
  refine ro_lt (r_eql rfl rfl) rfl ?_
  refine RO.nil (nx ?_)
  replace h := ite_some h; rcases h with ⟨c7, h⟩ | ⟨c7, h⟩
  · refine ex_if_t rfl (decide_eq_true c7) ?_
    refine ex_seq ?_
    refine ex_region ?_
    refine ro_lt (r_as (v := iv 0) rfl) rfl ?_
    refine RO.nil (nx ?_)
    obtain rfl := Option.some.inj h
    refine ex_ret (tq_ret ?_)
    exact ret1 (.inr rfl) rfl rfl (P1.of_flat HS hs rfl)
  refine ex_if_f rfl (decide_eq_false c7) ?_
  refine ex_skip (nx ?_)
  refine ex_seq ?_
  refine ex_region ?_
  refine ro_lt (r_fa (l4.sub HS.sub) fd27_0 rfl) rfl ?_
  refine ro_lt (r_ld ((l4.seg 0 1).sub HS.sub) sc24 rfl) rfl ?_
  replace h := grd_some h; obtain ⟨g8, h⟩ := h
  obtain ⟨_, q9, l10⟩ := r_s0.idx (by omega) g8
  obtain ⟨v11, v13, rfl, r12, r14⟩ := rd_K72 q9
  refine ro_lt (r_ia (r_s0.sub HS.sub) sl24 (by omega) g8 rfl rfl) rfl ?_
  refine ro_lt (r_fa (l10.sub HS.sub) fd72_0 rfl) rfl ?_
  refine ro_lt (r_ld ((l10.seg 0 1).sub HS.sub) sc25 rfl) rfl ?_
  have b15 := (r12.sub HS.sub).big
  refine ro_lt (r_len (n := 1) (r12.sub HS.sub) sl25 rfl) rfl ?_
  refine ro_lt (r_as (v := iv ((((s.1.getD (0 : Int).toNat (([] : List Int), ([] : List Int), 0, 0)).1).length : Int))) rfl) rfl ?_
  refine RO.nil (nx ?_)
  obtain rfl := Option.some.inj h
  refine ex_ret ?_
  exact ret1 (.inr rfl) rfl rfl (P1.of_flat HS hs rfl)
theorem c_spec_l12CopyNode {w : World} {x : List Int × List Int × Int × Int} {v_x0 : Value} {v_x1 : Value} (r_x0 : Rd (.sl 3 (.int .i64)) (hp w) x.1 [v_x0]) (r_x1 : Rd (.sl 3 (.int .i64)) (hp w) x.2.1 [v_x1]) {r : (List Int × List Int × Int × Int)} (h : F_spec_l12CopyNode x = some r) : Calls Try.prog 109 [.agg #[v_x0, v_x1, iv x.2.2.1, iv x.2.2.2]].toArray w (P1 (.prod (.sl 3 (.int .i64)) (.prod (.sl 3 (.int .i64)) (.prod (.int .i64) (.int .i64)))) w r) := by
  unfold F_spec_l12CopyNode at h
  have HS := St.init w
  have hs := Sub.refl (hp w)
  refine calls_ex (n := 16) Try.func109 rfl Try.ntmps109 (Nat.le_of_ble_eq_true rfl) ?_
  refine ex_seq ?_
  refine ex_region ?_
  refine ro_hy (o_boxz HS (cs := [v_x0, v_x1, iv x.2.2.1, iv x.2.2.2]) rfl rfl) rfl ?_
  rintro _ w2 ⟨g1, H5, rfl, q3, l4, hb, HS⟩
  replace r_x0 := r_x0.sub q3
  replace r_x1 := r_x1.sub q3
  replace hs := hs.trans q3
  refine ro_hy (o_alloc HS (cs := [.slice none 0 0, .slice none 0 0, iv 0, iv 0]) ze72 rfl) rfl ?_
  rintro _ w7 ⟨g6, rfl, hb, HS⟩
  refine RO.nil (nx ?_)
  refine ex_seq ?_
  refine ex_dr (Mm H5 []) (fun _ => True) [0, 0, 2, 7, 0, 0, 32, 127, 0, 256, 0, 1024, 4095, 8191] [0, 3, 4, 7, 13] (.op 1 (.op 2 (.op 5 (.op 6 (.op 8 (.op 9 (.op 10 (.op 11 (.alts (.br 0 (.alts (.br 3 (.op 4 (.op 7 (.op 12 (.op 13 .nil)))) (.br 4 (.op 3 (.op 7 (.op 12 (.op 13 .nil)))) .stop))) (.br 4 (.op 0 (.op 3 (.op 7 (.op 12 (.op 13 .nil))))) .stop))))))))))) mix (by kernel_rfl) (by kernel_rfl) ?_
  intro w9 hw hb; have HS := HS.ext hb; clear hw hb
  refine RT.lt rfl rfl rfl rfl (fun w' k => r_fa (l4.sub HS.sub) fd72_0 rfl) ?_
  refine RT.lt rfl rfl rfl rfl (fun w' k => r_ld ((l4.seg 0 1).kp HS.sub k.kp (mh rfl)) sc25 rfl) ?_
  refine RT.lt rfl rfl rfl rfl (fun w' k => r_fa (l4.sub HS.sub) fd72_1 rfl) ?_
  refine RT.lt rfl rfl rfl rfl (fun w' k => r_ld ((l4.seg 1 1).kp HS.sub k.kp (mh rfl)) sc25 rfl) ?_
  refine RT.lt rfl rfl rfl rfl (fun w' k => r_fa (l4.sub HS.sub) fd72_2 rfl) ?_
  refine RT.lt rfl rfl rfl rfl (fun w' k => r_ld ((l4.seg 2 1).kp HS.sub k.kp (mh rfl)) sc3 rfl) ?_
  refine RT.lt rfl rfl rfl rfl (fun w' k => r_fa (l4.sub HS.sub) fd72_3 rfl) ?_
  refine RT.lt rfl rfl rfl rfl (fun w' k => r_ld ((l4.seg 3 1).kp HS.sub k.kp (mh rfl)) sc3 rfl) ?_
  replace h := grd_some h; obtain ⟨g513, h⟩ := h
  replace h := grd_some h; obtain ⟨g521, h⟩ := h
  refine RT.alts ?_
  refine RT.br rfl rfl rfl rfl (o_bsv HS (cs := []) sl25 zz3 (vs := []) rfl rfl vc0 rfl rfl (by decide)) (fun _ _ ⟨_, _, hb, _⟩ => km_below hb (fun _ => trivial)) ?_ ?_
  · rintro _ w611 ⟨g610, rfl, hb, HS⟩
    replace HS := HS.lit0 (.int .i64)
    refine RT.alts ?_
    refine RT.br rfl rfl rfl rfl (o_appn (e2 := 3) HS rfl (r_x0.sub HS.sub) rfl rfl sl25 zz3 g513) (fun _ _ ⟨HS2, hk⟩ => km_st HS (Sub.refl _) (hk _ fun _ h => h) (own_none HS) (by kernel_rfl) (fun _ => trivial)) ?_ ?_
    · rintro v614 w615 ⟨HS, hk⟩
      refine RT.hy rfl rfl rfl rfl rfl (o_bsv HS (cs := []) sl25 zz3 (vs := []) rfl rfl vc0 rfl rfl (by decide)) (fun _ _ ⟨_, _, hb, _⟩ => km_below hb (fun _ => trivial)) ?_
      rintro _ w618 ⟨g617, rfl, hb, HS⟩
      replace HS := HS.lit0 (.int .i64)
      refine RT.hy rfl rfl rfl rfl rfl (o_appn (e2 := 3) HS rfl (r_x1.sub HS.sub) rfl rfl sl25 zz3 g521) (fun _ _ ⟨HS2, hk⟩ => km_st HS (Sub.refl _) (hk _ fun _ h => h) (own_none HS) (by kernel_rfl) (fun _ => trivial)) ?_
      rintro v621 w622 ⟨HS, hk⟩
      refine RT.lt rfl rfl rfl rfl (fun w' k => r_bld (cells := [v614, v621, iv x.2.2.1, iv x.2.2.2]) bz72 rfl (vp (HS.rd 1 rfl).vc (vp (HS.rd 0 rfl).vc (vp rfl (vp rfl vp0)))) rfl) ?_
      refine RT.hy rfl rfl rfl rfl rfl (o_str (off := 0) (vs := [v614, v621, iv x.2.2.1, iv x.2.2.2]) (l' := [v614, v621, iv x.2.2.1, iv x.2.2.2]) (HS.sel (G := [_, _, _]) [2] 0 rfl) rfl rfl rfl st72 rfl rfl (pl (HS.rd 1 rfl).pl (pl (HS.rd 0 rfl).pl (pl rfl (pl rfl pl0)))) rfl) (fun _ _ ⟨_, hk, HS2⟩ => km_st HS (Sub.refl _) (hk (fun b => b = g6) rfl) (fun b hb => hb ▸ bx_none (HS.sel (G := [_, _, _]) [2] 0 rfl)) (by kernel_rfl) (fun _ => trivial)) ?_
      rintro _ w624 ⟨rfl, hk, HS⟩
      refine RT.nil (nx ?_)
      obtain rfl := Option.some.inj h
      refine ex_ret ?_
      exact ret1 (.inr rfl) rfl (rv_box HS (i := 0) rfl rfl ag72 rfl) (P1.of (((((((HS.add (t := (.int .i64)) (x := x.2.2.2) rfl rfl).add (t := (.int .i64)) (x := x.2.2.1) rfl rfl).join).sel (G := [_, _, _, _]) [2] 0 rfl).join).sel (G := [_, _, _]) [2] 0 rfl).join) hs)
    refine RT.br rfl rfl rfl rfl (o_bsv HS (cs := []) sl25 zz3 (vs := []) rfl rfl vc0 rfl rfl (by decide)) (fun _ _ ⟨_, _, hb, _⟩ => km_below hb (fun _ => trivial)) ?_ ?_
    · rintro _ w632 ⟨g631, rfl, hb, HS⟩
      replace HS := HS.lit0 (.int .i64)
      refine RT.hy rfl rfl rfl rfl rfl (o_appn (e2 := 3) (HS.sel (G := [_, _, _]) [1] 0 rfl) rfl (r_x0.sub HS.sub) rfl rfl sl25 zz3 g513) (fun _ _ ⟨HS2, hk⟩ => km_st HS (Sub.refl _) (hk _ fun _ h => h) (own_none (HS.sel (G := [_, _, _]) [1] 0 rfl)) (by kernel_rfl) (fun _ => trivial)) ?_
      rintro v635 w636 ⟨HS, hk⟩
      refine RT.hy rfl rfl rfl rfl rfl (o_appn (e2 := 3) (HS.sel (G := [_, _, _]) [1] 0 rfl) rfl (r_x1.sub HS.sub) rfl rfl sl25 zz3 g521) (fun _ _ ⟨HS2, hk⟩ => km_st HS (Sub.refl _) (hk _ fun _ h => h) (own_none (HS.sel (G := [_, _, _]) [1] 0 rfl)) (by kernel_rfl) (fun _ => trivial)) ?_
      rintro v639 w640 ⟨HS, hk⟩
      refine RT.lt rfl rfl rfl rfl (fun w' k => r_bld (cells := [v635, v639, iv x.2.2.1, iv x.2.2.2]) bz72 rfl (vp (HS.rd 1 rfl).vc (vp (HS.rd 0 rfl).vc (vp rfl (vp rfl vp0)))) rfl) ?_
      refine RT.hy rfl rfl rfl rfl rfl (o_str (off := 0) (vs := [v635, v639, iv x.2.2.1, iv x.2.2.2]) (l' := [v635, v639, iv x.2.2.1, iv x.2.2.2]) (HS.sel (G := [_, _, _]) [2] 0 rfl) rfl rfl rfl st72 rfl rfl (pl (HS.rd 1 rfl).pl (pl (HS.rd 0 rfl).pl (pl rfl (pl rfl pl0)))) rfl) (fun _ _ ⟨_, hk, HS2⟩ => km_st HS (Sub.refl _) (hk (fun b => b = g6) rfl) (fun b hb => hb ▸ bx_none (HS.sel (G := [_, _, _]) [2] 0 rfl)) (by kernel_rfl) (fun _ => trivial)) ?_
      rintro _ w642 ⟨rfl, hk, HS⟩
      refine RT.nil (nx ?_)
      obtain rfl := Option.some.inj h
      refine ex_ret ?_
      exact ret1 (.inr rfl) rfl (rv_box HS (i := 0) rfl rfl ag72 rfl) (P1.of (((((((HS.add (t := (.int .i64)) (x := x.2.2.2) rfl rfl).add (t := (.int .i64)) (x := x.2.2.1) rfl rfl).join).sel (G := [_, _, _, _]) [2] 0 rfl).join).sel (G := [_, _, _]) [2] 0 rfl).join) hs)
    exact RT.stop
  refine RT.br rfl rfl rfl rfl (o_bsv HS (cs := []) sl25 zz3 (vs := []) rfl rfl vc0 rfl rfl (by decide)) (fun _ _ ⟨_, _, hb, _⟩ => km_below hb (fun _ => trivial)) ?_ ?_
  · rintro _ w650 ⟨g649, rfl, hb, HS⟩
    replace HS := HS.lit0 (.int .i64)
    refine RT.hy rfl rfl rfl rfl rfl (o_bsv HS (cs := []) sl25 zz3 (vs := []) rfl rfl vc0 rfl rfl (by decide)) (fun _ _ ⟨_, _, hb, _⟩ => km_below hb (fun _ => trivial)) ?_
    rintro _ w653 ⟨g652, rfl, hb, HS⟩
    replace HS := HS.lit0 (.int .i64)
    refine RT.hy rfl rfl rfl rfl rfl (o_appn (e2 := 3) HS rfl (r_x0.sub HS.sub) rfl rfl sl25 zz3 g513) (fun _ _ ⟨HS2, hk⟩ => km_st HS (Sub.refl _) (hk _ fun _ h => h) (own_none HS) (by kernel_rfl) (fun _ => trivial)) ?_
    rintro v656 w657 ⟨HS, hk⟩
    refine RT.hy rfl rfl rfl rfl rfl (o_appn (e2 := 3) (HS.sel (G := [_, _, _]) [1] 0 rfl) rfl (r_x1.sub HS.sub) rfl rfl sl25 zz3 g521) (fun _ _ ⟨HS2, hk⟩ => km_st HS (Sub.refl _) (hk _ fun _ h => h) (own_none (HS.sel (G := [_, _, _]) [1] 0 rfl)) (by kernel_rfl) (fun _ => trivial)) ?_
    rintro v660 w661 ⟨HS, hk⟩
    refine RT.lt rfl rfl rfl rfl (fun w' k => r_bld (cells := [v656, v660, iv x.2.2.1, iv x.2.2.2]) bz72 rfl (vp (HS.rd 1 rfl).vc (vp (HS.rd 0 rfl).vc (vp rfl (vp rfl vp0)))) rfl) ?_
    refine RT.hy rfl rfl rfl rfl rfl (o_str (off := 0) (vs := [v656, v660, iv x.2.2.1, iv x.2.2.2]) (l' := [v656, v660, iv x.2.2.1, iv x.2.2.2]) (HS.sel (G := [_, _, _]) [2] 0 rfl) rfl rfl rfl st72 rfl rfl (pl (HS.rd 1 rfl).pl (pl (HS.rd 0 rfl).pl (pl rfl (pl rfl pl0)))) rfl) (fun _ _ ⟨_, hk, HS2⟩ => km_st HS (Sub.refl _) (hk (fun b => b = g6) rfl) (fun b hb => hb ▸ bx_none (HS.sel (G := [_, _, _]) [2] 0 rfl)) (by kernel_rfl) (fun _ => trivial)) ?_
    rintro _ w663 ⟨rfl, hk, HS⟩
    refine RT.nil (nx ?_)
    obtain rfl := Option.some.inj h
    refine ex_ret ?_
    exact ret1 (.inr rfl) rfl (rv_box HS (i := 0) rfl rfl ag72 rfl) (P1.of (((((((HS.add (t := (.int .i64)) (x := x.2.2.2) rfl rfl).add (t := (.int .i64)) (x := x.2.2.1) rfl rfl).join).sel (G := [_, _, _, _]) [2] 0 rfl).join).sel (G := [_, _, _]) [2] 0 rfl).join) hs)
  exact RT.stop
theorem c_spec_l12Copy {w : World} {s : (List (List Int × List Int × Int × Int)) × List Int} {v_s0 : Value} {v_s1 : Value} (r_s0 : Rd (.sl 72 (.prod (.sl 3 (.int .i64)) (.prod (.sl 3 (.int .i64)) (.prod (.int .i64) (.int .i64))))) (hp w) s.1 [v_s0]) (r_s1 : Rd (.sl 3 (.int .i64)) (hp w) s.2 [v_s1]) {r : ((List (List Int × List Int × Int × Int)) × List Int)} (h : F_spec_l12Copy s = some r) : Calls Try.prog 55 [.agg #[v_s0, v_s1]].toArray w (P1 (.prod (.sl 72 (.prod (.sl 3 (.int .i64)) (.prod (.sl 3 (.int .i64)) (.prod (.int .i64) (.int .i64))))) (.sl 3 (.int .i64))) w r) := by
  unfold F_spec_l12Copy at h
  have HS := St.init w
  have hs := Sub.refl (hp w)
  refine calls_ex (n := 29) Try.func55 rfl Try.ntmps55 (Nat.le_of_ble_eq_true rfl) ?_
  refine ex_seq ?_
  refine ex_region ?_
  refine ro_hy (o_boxz HS (cs := [v_s0, v_s1]) rfl rfl) rfl ?_
  rintro _ w2 ⟨g1, H5, rfl, q3, l4, hb, HS⟩
  replace r_s0 := r_s0.sub q3
  replace r_s1 := r_s1.sub q3
  replace hs := hs.trans q3
  refine ro_hy (o_alloc HS (cs := [.slice none 0 0, .slice none 0 0]) ze27 rfl) rfl ?_
  rintro _ w7 ⟨g6, rfl, hb, HS⟩
  refine RO.nil (nx ?_)
  refine ex_seq ?_
  refine ex_region ?_
  refine ro_hy (o_bsv HS (cs := []) sl25 zz3 (vs := []) rfl rfl vc0 rfl rfl (by decide)) rfl ?_
  rintro _ w10 ⟨g9, rfl, hb, HS⟩
  replace HS := HS.lit0 (.int .i64)
  refine ro_lt (r_fa (l4.sub HS.sub) fd27_1 rfl) rfl ?_
  refine ro_lt (r_ld ((l4.seg 1 1).sub HS.sub) sc25 rfl) rfl ?_
  replace h := grd_some h; obtain ⟨g12, h⟩ := h
  refine ro_hy (o_appn (e2 := 3) HS rfl (r_s1.sub HS.sub) rfl rfl sl25 zz3 g12) rfl ?_
  rintro v14 w15 ⟨HS, hk⟩
  refine ro_lt (r_bld (cells := [.slice none 0 0, v14]) bz27 rfl (vp (HS.rd 0 rfl).vc vp0) rfl) rfl ?_
  refine ro_hy (o_alloc HS (cs := [.slice none 0 0, .slice none 0 0]) ze27 rfl) rfl ?_
  rintro _ w18 ⟨g17, rfl, hb, HS⟩
  refine ro_hy (o_str (off := 0) (vs := [.slice none 0 0, v14]) (l' := [.slice none 0 0, v14]) HS rfl rfl rfl st27 rfl rfl (pl rfl (pl (HS.rd 1 rfl).pl pl0)) rfl) rfl ?_
  rintro _ w20 ⟨rfl, hk, HS⟩
  refine RO.nil (nx ?_)
  refine ex_seq ?_
  refine ex_seq ?_
  refine ex_region ?_
  refine ro_lt (r_as (v := iv 0) rfl) rfl ?_
  refine RO.nil (nx ?_)
  replace h := bind_some h; obtain ⟨y68, e69, h⟩ := h
  refine ex_lbo (fun (st : (List (List Int × List Int × Int × Int)) × Int) s' w' => ∃ v32 : Value, Has s' [(1, .pointer (some ⟨g1, 0, none⟩)), (2, .pointer (some ⟨g6, 0, none⟩)), (3, .pointer (some ⟨g17, 0, none⟩)), (4, iv st.2)] ∧ St w H5 w' [.ow (.sl 72 (.prod (.sl 3 (.int .i64)) (.prod (.sl 3 (.int .i64)) (.prod (.int .i64) (.int .i64))))) st.1 [v32], .bx g17 27 [v32, v14], .ow (.sl 3 (.int .i64)) ((([] : List Int)) ++ s.2) [v14], .bx g6 27 [.slice none 0 0, .slice none 0 0]]) e69 ⟨.slice none 0 0, ⟨rfl, rfl, rfl, rfl, trivial⟩, (HS.nil 72 (.prod (.sl 3 (.int .i64)) (.prod (.sl 3 (.int .i64)) (.prod (.int .i64) (.int .i64)))))⟩ ?_ ?_
  · rintro ⟨i30, k_33⟩ c' s' w34 ⟨v32, hs_, HS⟩ h
    rw [has_put hs_]; clear hs_
    try dsimp only at HS
    replace h : F_spec_l12Copy_b1 s i30 k_33 = some c' := h
    unfold F_spec_l12Copy_b1 at h
    refine ex_seq ?_
    refine ex_seq ?_
    refine ex_region ?_
    refine ro_lt (r_mv (v := iv k_33) rfl) rfl ?_
    refine ro_lt (r_fa (l4.sub HS.sub) fd27_0 rfl) rfl ?_
    refine ro_lt (r_ld ((l4.seg 0 1).sub HS.sub) sc24 rfl) rfl ?_
    have b35 := (r_s0.sub HS.sub).big
    refine ro_lt (r_len (n := 4) (r_s0.sub HS.sub) sl24 rfl) rfl ?_
    refine ro_lt (r_lss rfl rfl) rfl ?_
    refine RO.nil (nx ?_)
    replace h := ite_some h; rcases h with ⟨c36, h⟩ | ⟨c36, h⟩
    rotate_left
    · refine ex_if_f rfl (decide_eq_false c36) ?_
      refine ex_exit (tq_exit ?_)
      obtain rfl := Option.some.inj h
      exact lq_out ⟨v32, ⟨rfl, rfl, rfl, rfl, trivial⟩, HS⟩
    refine ex_if_t rfl (decide_eq_true c36) ?_
    refine ex_skip (nx ?_)
    refine ex_seq ?_
    refine ex_block ?_
    refine ex_dr (Mm H5 [1]) (fun _ => True) [0, 1, 0, 4, 0, 28, 60, 124, 252, 511, 1023, 2047] [7, 8, 9, 11] (.op 0 (.op 1 (.op 2 (.op 3 (.op 4 (.op 5 (.op 6 (.op 7 (.op 8 (.op 9 (.op 10 (.op 11 .nil)))))))))))) mix (by kernel_rfl) (by kernel_rfl) ?_
    intro w37 hw hb; have HS := HS.ext hb; clear hw hb
    refine RT.lt rfl rfl rfl rfl (fun w' k => r_fa (HS.boxAt 1 rfl) fd27_0 rfl) ?_
    refine RT.lt rfl rfl rfl rfl (fun w' k => r_ld (((HS.boxAt 1 rfl).seg 0 1).k0 (Sub.refl _) (k.kp.none rfl)) sc24 rfl) ?_
    refine RT.lt rfl rfl rfl rfl (fun w' k => r_fa (l4.sub HS.sub) fd27_0 rfl) ?_
    refine RT.lt rfl rfl rfl rfl (fun w' k => r_ld ((l4.seg 0 1).kp HS.sub k.kp (mh rfl)) sc24 rfl) ?_
    refine RT.lt rfl rfl rfl rfl (fun w' k => r_mv (v := iv k_33) rfl) ?_
    replace h := grd_some h; obtain ⟨g38, h⟩ := h
    obtain ⟨_, q39, l40⟩ := r_s0.idx g38.1 g38.2
    obtain ⟨v41, v43, rfl, r42, r44⟩ := rd_K72 q39
    refine RT.lt rfl rfl rfl rfl (fun w' k => r_ia (r_s0.sub HS.sub) sl24 g38.1 g38.2 rfl rfl) ?_
    refine RT.lt rfl rfl rfl rfl (fun w' k => r_lda (l40.kp HS.sub k.kp (mh rfl)) ag72 rfl rfl) ?_
    replace h := bind_some h; obtain ⟨y45, e46, h⟩ := h
    refine RT.hy rfl rfl rfl rfl rfl (o_c1 (vs := [.agg #[v41, v43, iv ((((s.1.getD k_33.toNat (([] : List Int), ([] : List Int), 0, 0)).2).2).1), iv ((((s.1.getD k_33.toNat (([] : List Int), ([] : List Int), 0, 0)).2).2).2)]]) HS (c_spec_l12CopyNode (r42.sub HS.sub) (r44.sub HS.sub) e46) cf109 rfl) (fun _ _ ⟨_, _, hb, _⟩ => km_below hb (fun _ => trivial)) ?_
    rintro _ w47 ⟨cs48, rfl, hb, HS⟩
    replace HS := st_K72 HS
    obtain ⟨v50, v52, rfl, HS⟩ := HS
    refine RT.hy rfl rfl rfl rfl rfl (o_bsv HS (cs := [v50, v52, iv y45.2.2.1, iv y45.2.2.2]) sl24 zz72 (vs := [.agg #[v50, v52, iv y45.2.2.1, iv y45.2.2.2]]) rfl rfl (vc rfl vc0) rfl rfl (by decide)) (fun _ _ ⟨_, _, hb, _⟩ => km_below hb (fun _ => trivial)) ?_
    rintro _ w54 ⟨g53, rfl, hb, HS⟩
    replace h := grd_some h; obtain ⟨g56, h⟩ := h
    refine RT.hy rfl rfl rfl rfl rfl (o_app1 ((((((((HS.add (t := (.int .i64)) (x := y45.2.2.2) rfl rfl).add (t := (.int .i64)) (x := y45.2.2.1) rfl rfl).join).sel (G := [_, _, _, _, _, _, _, _]) [3] 0 rfl).join).sel (G := [_, _, _, _, _, _, _]) [2] 0 rfl).join).sel (G := [_, _, _, _, _, _]) [2] 0 rfl) rfl rfl sl24 zz72 g56) (fun _ _ ⟨HS2, hk⟩ => km_st HS (Sub.refl _) (hk _ fun _ h => h) (own_none ((((((((HS.add (t := (.int .i64)) (x := y45.2.2.2) rfl rfl).add (t := (.int .i64)) (x := y45.2.2.1) rfl rfl).join).sel (G := [_, _, _, _, _, _, _, _]) [3] 0 rfl).join).sel (G := [_, _, _, _, _, _, _]) [2] 0 rfl).join).sel (G := [_, _, _, _, _, _]) [2] 0 rfl)) (by kernel_rfl) (fun _ => trivial)) ?_
    rintro v63 w64 ⟨HS, hk⟩
    refine RT.lt rfl rfl rfl rfl (fun w' k => r_fa (HS.boxAt 1 rfl) fd27_0 rfl) ?_
    refine RT.hy rfl rfl rfl rfl rfl (o_str (off := 0) (vs := [v63]) (l' := [v63, v14]) (HS.sel (G := [_, _, _, _]) [1] 0 rfl) rfl rfl (HS.rd 0 rfl).vc st24 rfl rfl (pl (HS.rd 0 rfl).pl pl0) rfl) (fun _ _ ⟨_, hk, HS2⟩ => km_st HS (Sub.refl _) (hk (fun b => b = g17) rfl) (fun b hb => hb ▸ bx_none (HS.sel (G := [_, _, _, _]) [1] 0 rfl)) (by kernel_rfl) (fun _ => trivial)) ?_
    rintro _ w66 ⟨rfl, hk, HS⟩
    refine RT.nil (blk_nx (nx ?_))
    refine ex_region ?_
    refine ro_lt (r_mv (v := iv k_33) rfl) rfl ?_
    refine ro_lt (r_addw rfl rfl) rfl ?_
    refine ro_lt (r_as (v := iv (wi (k_33 + 1))) rfl) rfl ?_
    refine RO.nil ?_
    obtain rfl := Option.some.inj h
    exact lq_go ⟨v63, ⟨rfl, rfl, rfl, rfl, trivial⟩, (HS.sel (G := [_, _, _, _]) [1, 0, 0, 0] 0 rfl)⟩
  rintro s' w71 ⟨v32, hs_, HS⟩
  rw [has_put hs_]; clear hs_
  refine (nx ?_)
  refine ex_seq ?_
  refine ex_region ?_
  refine ro_lt (r_lda (HS.boxAt 1 rfl) ag27 rfl rfl) rfl ?_
  refine ro_hy (o_str (off := 0) (vs := [v32, v14]) (l' := [v32, v14]) (HS.sel (G := [_, _, _, _]) [3] 0 rfl) rfl rfl rfl st27 rfl rfl (pl (HS.rd 0 rfl).pl (pl (HS.rd 2 rfl).pl pl0)) rfl) rfl ?_
  rintro _ w73 ⟨rfl, hk, HS⟩
  refine RO.nil (nx ?_)
  obtain rfl := Option.some.inj h
  refine ex_ret ?_
  exact ret1 (.inr rfl) rfl (rv_box HS (i := 0) rfl rfl ag27 rfl) (P1.of (((HS.sel (G := [_, _, _, _]) [3] 0 rfl).sel (G := [_, _, _, _]) [2] 0 rfl).join) hs)
theorem c_spec_CountPredicates {w : World} {s : (List (List Int × List Int × Int × Int)) × List Int} {v_s0 : Value} {v_s1 : Value} (r_s0 : Rd (.sl 72 (.prod (.sl 3 (.int .i64)) (.prod (.sl 3 (.int .i64)) (.prod (.int .i64) (.int .i64))))) (hp w) s.1 [v_s0]) (r_s1 : Rd (.sl 3 (.int .i64)) (hp w) s.2 [v_s1]) {r : Int} (h : F_spec_CountPredicates s = some r) : Calls Try.prog 165 [.agg #[v_s0, v_s1]].toArray w (P1 (.int .i64) w r) := by
  unfold F_spec_CountPredicates at h
  have HS := St.init w
  have hs := Sub.refl (hp w)
  refine calls_ex (n := 11) Try.func165 rfl Try.ntmps165 (Nat.le_of_ble_eq_true rfl) ?_
  refine ex_seq ?_
  refine ex_region ?_
  refine ro_hy (o_boxz HS (cs := [v_s0, v_s1]) rfl rfl) rfl ?_
  rintro _ w2 ⟨g1, H5, rfl, q3, l4, hb, HS⟩
  replace r_s0 := r_s0.sub q3
  replace r_s1 := r_s1.sub q3
  replace hs := hs.trans q3
  refine ro_lt (r_as (v := iv 0) rfl) rfl ?_
  refine RO.nil (nx ?_)
  refine ex_seq ?_
  refine ex_seq ?_
  refine ex_region ?_
  refine ro_lt (r_fa (l4.sub HS.sub) fd27_0 rfl) rfl ?_
  refine ro_lt (r_ld ((l4.seg 0 1).sub HS.sub) sc24 rfl) rfl ?_
  have b6 := (r_s0.sub HS.sub).big
  refine ro_lt (r_len (n := 4) (r_s0.sub HS.sub) sl24 rfl) rfl ?_
  refine ro_lt (r_eql rfl rfl) rfl ?_
  refine RO.nil (nx ?_)
  replace h := ite_some h; rcases h with ⟨c7, h⟩ | ⟨c7, h⟩
  · refine ex_if_t rfl (decide_eq_true c7) ?_
    refine ex_seq ?_
    refine ex_region ?_
    refine ro_lt (r_as (v := iv 0) rfl) rfl ?_
    refine RO.nil (nx ?_)
    obtain rfl := Option.some.inj h
    refine ex_ret (tq_ret ?_)
    exact ret1 (.inr rfl) rfl rfl (P1.of_flat HS hs rfl)
  refine ex_if_f rfl (decide_eq_false c7) ?_
  refine ex_skip (nx ?_)
  refine ex_seq ?_
  refine ex_region ?_
  refine ro_lt (r_lda (l4.sub HS.sub) ag27 rfl rfl) rfl ?_
  replace h := bind_some h; obtain ⟨y8, e9, h⟩ := h
  refine ro_hy (o_cf (vs := [.agg #[v_s0, v_s1]]) HS rfl (c_spec_l15Vars (r_s0.sub HS.sub) (r_s1.sub HS.sub) e9) cf54 rfl) rfl ?_
  rintro _ w10 ⟨rfl, hb, HS⟩
  refine ro_lt (r_mulw rfl rfl) rfl ?_
  refine ro_lt (r_addw rfl rfl) rfl ?_
  refine ro_lt (r_as (v := iv (wi ((wi (2 * y8)) + 1))) rfl) rfl ?_
  refine RO.nil (nx ?_)
  obtain rfl := Option.some.inj h
  refine ex_ret ?_
  exact ret1 (.inr rfl) rfl rfl (P1.of_flat HS hs rfl)
theorem c_spec_TruthText {w : World} {a : Int} {r : ByteArray} (h : F_spec_TruthText a = some r) : Calls Try.prog 166 [iv a].toArray w (P1 .str w r) := by
  unfold F_spec_TruthText at h
  have HS := St.init w
  have hs := Sub.refl (hp w)
  refine calls_ex (n := 10) Try.func166 rfl Try.ntmps166 (Nat.le_of_ble_eq_true rfl) ?_
  refine ex_seq ?_
  refine ex_region ?_
  refine ro_lt (r_as (v := .string ((⟨#[]⟩ : ByteArray))) rfl) rfl ?_
  refine RO.nil (nx ?_)
  refine ex_seq ?_
  refine ex_seq ?_
  refine ex_region ?_
  refine ro_lt (r_mv (v := iv a) rfl) rfl ?_
  replace h := bind_some h; obtain ⟨y1, e2, h⟩ := h
  refine ro_hy (o_cf (vs := [iv a]) HS rfl (c_spec_IsTruth e2) cf63 rfl) rfl ?_
  rintro _ w3 ⟨rfl, hb, HS⟩
  refine ro_lt (r_not rfl) rfl ?_
  refine RO.nil (nx ?_)
  replace h := ite_some h; rcases h with ⟨c4, h⟩ | ⟨c4, h⟩
  rotate_left
  · refine ex_if_t rfl (congrArg (!·) (bf c4)) ?_
    refine ex_seq ?_
    refine ex_region ?_
    refine ro_lt (r_as (v := .string ((⟨#[]⟩ : ByteArray))) rfl) rfl ?_
    refine RO.nil (nx ?_)
    obtain rfl := Option.some.inj h
    refine ex_ret (tq_ret ?_)
    exact ret1 (.inr rfl) rfl rfl (P1.of_flat HS hs rfl)
  refine ex_if_f rfl (congrArg (!·) (c4)) ?_
  refine ex_skip (nx ?_)
  refine ex_seq ?_
  refine ex_region ?_
  refine ro_lt (r_mv (v := iv a) rfl) rfl ?_
  refine ro_lt (r_mv (v := iv a) rfl) rfl ?_
  refine ro_lt (r_addw rfl rfl) rfl ?_
  replace h := grd_some h; obtain ⟨g5, h⟩ := h
  refine ro_lt (r_sslice (p := (⟨#[48, 63, 49]⟩ : ByteArray)) str9 g5 rfl rfl rfl) rfl ?_
  refine ro_lt (r_as (v := .string (((⟨#[48, 63, 49]⟩ : ByteArray)).extract a.toNat (wi (a + 1)).toNat)) rfl) rfl ?_
  refine RO.nil (nx ?_)
  obtain rfl := Option.some.inj h
  refine ex_ret ?_
  exact ret1 (.inr rfl) rfl rfl (P1.of_flat HS hs rfl)
theorem c_spec_l13At {w : World} {list : List Int} {v_list : Value} {k : Int} (r_list : Rd (.sl 3 (.int .i64)) (hp w) list [v_list]) {r : Int} (h : F_spec_l13At list k = some r) : Calls Try.prog 108 [v_list, iv k].toArray w (P1 (.int .i64) w r) := by
  unfold F_spec_l13At at h
  have HS := St.init w
  have hs := Sub.refl (hp w)
  refine calls_ex (n := 15) Try.func108 rfl Try.ntmps108 (Nat.le_of_ble_eq_true rfl) ?_
  refine ex_seq ?_
  refine ex_region ?_
  refine ro_lt (r_as (v := iv 0) rfl) rfl ?_
  refine RO.nil (nx ?_)
  refine ex_seq ?_
  refine ex_seq ?_
  refine ex_region ?_
  refine ro_lt (r_mv (v := iv k) rfl) rfl ?_
  refine ro_lt (r_mv (v := v_list) rfl) rfl ?_
  have b1 := (r_list.sub HS.sub).big
  refine ro_lt (r_len (n := 1) (r_list.sub HS.sub) sl25 rfl) rfl ?_
  refine ro_lt (r_sub rfl rfl (by omega)) rfl ?_
  replace h := bind_some h; obtain ⟨y2, e3, h⟩ := h
  refine ro_hy (o_cf (vs := [iv k, iv 0, iv ((list.length : Int) - 1)]) HS rfl (c_spec_l1In e3) cf64 rfl) rfl ?_
  rintro _ w4 ⟨rfl, hb, HS⟩
  refine ro_lt (r_not rfl) rfl ?_
  refine RO.nil (nx ?_)
  replace h := ite_some h; rcases h with ⟨c5, h⟩ | ⟨c5, h⟩
  rotate_left
  · refine ex_if_t rfl (congrArg (!·) (bf c5)) ?_
    refine ex_seq ?_
    refine ex_region ?_
    refine ro_lt (r_as (v := iv 1) rfl) rfl ?_
    refine RO.nil (nx ?_)
    obtain rfl := Option.some.inj h
    refine ex_ret (tq_ret ?_)
    exact ret1 (.inr rfl) rfl rfl (P1.of_flat HS hs rfl)
  refine ex_if_f rfl (congrArg (!·) (c5)) ?_
  refine ex_skip (nx ?_)
  refine ex_seq ?_
  refine ex_region ?_
  refine ro_lt (r_mv (v := v_list) rfl) rfl ?_
  refine ro_lt (r_mv (v := iv k) rfl) rfl ?_
  replace h := grd_some h; obtain ⟨g6, h⟩ := h
  refine ro_lt (r_ia (r_list.sub HS.sub) sl25 g6.1 g6.2 rfl rfl) rfl ?_
  refine ro_lt (r_ld ((r_list.int g6.1 g6.2).sub HS.sub) sc3 rfl) rfl ?_
  refine ro_lt (r_as (v := iv (list.getD k.toNat 0)) rfl) rfl ?_
  refine RO.nil (nx ?_)
  obtain rfl := Option.some.inj h
  refine ex_ret ?_
  exact ret1 (.inr rfl) rfl rfl (P1.of_flat HS hs rfl)
theorem c_spec_PredicateAt {w : World} {s : (List (List Int × List Int × Int × Int)) × List Int} {v_s0 : Value} {v_s1 : Value} {k : Int} {i : Int} (r_s0 : Rd (.sl 72 (.prod (.sl 3 (.int .i64)) (.prod (.sl 3 (.int .i64)) (.prod (.int .i64) (.int .i64))))) (hp w) s.1 [v_s0]) (r_s1 : Rd (.sl 3 (.int .i64)) (hp w) s.2 [v_s1]) {r : Int} (h : F_spec_PredicateAt s k i = some r) : Calls Try.prog 167 [.agg #[v_s0, v_s1], iv k, iv i].toArray w (P1 (.int .i64) w r) := by
  unfold F_spec_PredicateAt at h
  have HS := St.init w
  have hs := Sub.refl (hp w)
  refine calls_ex (n := 58) Try.func167 rfl Try.ntmps167 (Nat.le_of_ble_eq_true rfl) ?_
  refine ex_seq ?_
  refine ex_region ?_
  refine ro_hy (o_boxz HS (cs := [v_s0, v_s1]) rfl rfl) rfl ?_
  rintro _ w2 ⟨g1, H5, rfl, q3, l4, hb, HS⟩
  replace r_s0 := r_s0.sub q3
  replace r_s1 := r_s1.sub q3
  replace hs := hs.trans q3
  refine ro_lt (r_as (v := iv 0) rfl) rfl ?_
  refine RO.nil (nx ?_)
  refine ex_seq ?_
  refine ex_region ?_
  refine ro_lt (r_lda (l4.sub HS.sub) ag27 rfl rfl) rfl ?_
  replace h := bind_some h; obtain ⟨y6, e7, h⟩ := h
  refine ro_hy (o_cf (vs := [.agg #[v_s0, v_s1]]) HS rfl (c_spec_l15Vars (r_s0.sub HS.sub) (r_s1.sub HS.sub) e7) cf54 rfl) rfl ?_
  rintro _ w8 ⟨rfl, hb, HS⟩
  refine ro_lt (r_as (v := iv y6) rfl) rfl ?_
  refine RO.nil (nx ?_)
  refine ex_seq ?_
  refine ex_seq ?_
  refine ex_region ?_
  refine ro_lt (r_mv (v := iv i) rfl) rfl ?_
  refine ro_lt (r_fa (l4.sub HS.sub) fd27_0 rfl) rfl ?_
  refine ro_lt (r_ld ((l4.seg 0 1).sub HS.sub) sc24 rfl) rfl ?_
  have b9 := (r_s0.sub HS.sub).big
  refine ro_lt (r_len (n := 4) (r_s0.sub HS.sub) sl24 rfl) rfl ?_
  refine ro_lt (r_sub rfl rfl (by omega)) rfl ?_
  replace h := bind_some h; obtain ⟨y10, e11, h⟩ := h
  refine ro_hy (o_cf (vs := [iv i, iv 0, iv ((s.1.length : Int) - 1)]) HS rfl (c_spec_l1In e11) cf64 rfl) rfl ?_
  rintro _ w12 ⟨rfl, hb, HS⟩
  refine ro_lt (r_not rfl) rfl ?_
  refine RO.nil (nx ?_)
  replace h := ite_some h; rcases h with ⟨c13, h⟩ | ⟨c13, h⟩
  rotate_left
  · refine ex_if_t rfl (congrArg (!·) (bf c13)) ?_
    refine ex_seq ?_
    refine ex_region ?_
    refine ro_lt (r_as (v := iv 1) rfl) rfl ?_
    refine RO.nil (nx ?_)
    obtain rfl := Option.some.inj h
    refine ex_ret (tq_ret ?_)
    exact ret1 (.inr rfl) rfl rfl (P1.of_flat HS hs rfl)
  refine ex_if_f rfl (congrArg (!·) (c13)) ?_
  refine ex_skip (nx ?_)
  refine ex_seq ?_
  refine ex_block ?_
  refine ex_seq ?_
  refine ex_region ?_
  refine ro_lt (r_mv (v := iv k) rfl) rfl ?_
  refine ro_lt (r_mv (v := iv y6) rfl) rfl ?_
  refine ro_lt (r_subw rfl rfl) rfl ?_
  replace h := bind_some h; obtain ⟨y14, e15, h⟩ := h
  refine ro_hy (o_cf (vs := [iv k, iv 0, iv (wi (y6 - 1))]) HS rfl (c_spec_l1In e15) cf64 rfl) rfl ?_
  rintro _ w16 ⟨rfl, hb, HS⟩
  refine ro_lt (r_as (v := .bool y14) rfl) rfl ?_
  refine RO.nil (nx ?_)
  replace h := ite_some h; rcases h with ⟨c17, h⟩ | ⟨c17, h⟩
  · refine ex_if_t rfl (c17) ?_
    refine ex_seq ?_
    refine ex_region ?_
    refine ro_lt (r_fa (l4.sub HS.sub) fd27_0 rfl) rfl ?_
    refine ro_lt (r_ld ((l4.seg 0 1).sub HS.sub) sc24 rfl) rfl ?_
    refine ro_lt (r_mv (v := iv i) rfl) rfl ?_
    replace h := grd_some h; obtain ⟨g18, h⟩ := h
    obtain ⟨_, q19, l20⟩ := r_s0.idx g18.1 g18.2
    obtain ⟨v21, v23, rfl, r22, r24⟩ := rd_K72 q19
    refine ro_lt (r_ia (r_s0.sub HS.sub) sl24 g18.1 g18.2 rfl rfl) rfl ?_
    refine ro_lt (r_fa (l20.sub HS.sub) fd72_0 rfl) rfl ?_
    refine ro_lt (r_ld ((l20.seg 0 1).sub HS.sub) sc25 rfl) rfl ?_
    refine ro_lt (r_mv (v := iv k) rfl) rfl ?_
    replace h := bind_some h; obtain ⟨y25, e26, h⟩ := h
    refine ro_hy (o_cf (vs := [v21, iv k]) HS rfl (c_spec_l13At (r22.sub HS.sub) e26) cf108 rfl) rfl ?_
    rintro _ w27 ⟨rfl, hb, HS⟩
    refine ro_lt (r_as (v := iv y25) rfl) rfl ?_
    refine RO.nil (nx ?_)
    obtain rfl := Option.some.inj h
    refine ex_ret (blk_ret (tq_ret ?_))
    exact ret1 (.inr rfl) rfl rfl (P1.of_flat HS hs rfl)
  refine ex_if_f rfl (bf c17) ?_
  refine ex_seq ?_
  refine ex_region ?_
  refine ro_lt (r_mv (v := iv k) rfl) rfl ?_
  refine ro_lt (r_mv (v := iv y6) rfl) rfl ?_
  refine ro_lt (r_mv (v := iv y6) rfl) rfl ?_
  refine ro_lt (r_mulw rfl rfl) rfl ?_
  refine ro_lt (r_subw rfl rfl) rfl ?_
  replace h := bind_some h; obtain ⟨y28, e29, h⟩ := h
  refine ro_hy (o_cf (vs := [iv k, iv y6, iv (wi ((wi (2 * y6)) - 1))]) HS rfl (c_spec_l1In e29) cf64 rfl) rfl ?_
  rintro _ w30 ⟨rfl, hb, HS⟩
  refine ro_lt (r_as (v := .bool y28) rfl) rfl ?_
  refine RO.nil (nx ?_)
  replace h := ite_some h; rcases h with ⟨c31, h⟩ | ⟨c31, h⟩
  · refine ex_if_t rfl (c31) ?_
    refine ex_seq ?_
    refine ex_region ?_
    refine ro_lt (r_fa (l4.sub HS.sub) fd27_0 rfl) rfl ?_
    refine ro_lt (r_ld ((l4.seg 0 1).sub HS.sub) sc24 rfl) rfl ?_
    refine ro_lt (r_mv (v := iv i) rfl) rfl ?_
    replace h := grd_some h; obtain ⟨g32, h⟩ := h
    obtain ⟨_, q33, l34⟩ := r_s0.idx g32.1 g32.2
    obtain ⟨v35, v37, rfl, r36, r38⟩ := rd_K72 q33
    refine ro_lt (r_ia (r_s0.sub HS.sub) sl24 g32.1 g32.2 rfl rfl) rfl ?_
    refine ro_lt (r_fa (l34.sub HS.sub) fd72_1 rfl) rfl ?_
    refine ro_lt (r_ld ((l34.seg 1 1).sub HS.sub) sc25 rfl) rfl ?_
    refine ro_lt (r_mv (v := iv k) rfl) rfl ?_
    refine ro_lt (r_mv (v := iv y6) rfl) rfl ?_
    refine ro_lt (r_subw rfl rfl) rfl ?_
    replace h := bind_some h; obtain ⟨y39, e40, h⟩ := h
    refine ro_hy (o_cf (vs := [v37, iv (wi (k - y6))]) HS rfl (c_spec_l13At (r38.sub HS.sub) e40) cf108 rfl) rfl ?_
    rintro _ w41 ⟨rfl, hb, HS⟩
    refine ro_lt (r_as (v := iv y39) rfl) rfl ?_
    refine RO.nil (nx ?_)
    obtain rfl := Option.some.inj h
    refine ex_ret (blk_ret (tq_ret ?_))
    exact ret1 (.inr rfl) rfl rfl (P1.of_flat HS hs rfl)
  refine ex_if_f rfl (bf c31) ?_
  refine ex_seq ?_
  refine ex_region ?_
  refine ro_lt (r_mv (v := iv k) rfl) rfl ?_
  refine ro_lt (r_mv (v := iv y6) rfl) rfl ?_
  refine ro_lt (r_mulw rfl rfl) rfl ?_
  refine ro_lt (r_eql rfl rfl) rfl ?_
  refine ro_lt (r_as (v := .bool ((decide (k = wi (2 * y6))))) rfl) rfl ?_
  refine RO.nil (nx ?_)
  replace h := ite_some h; rcases h with ⟨c42, h⟩ | ⟨c42, h⟩
  rotate_left
  · refine ex_if_f rfl (decide_eq_false c42) ?_
    refine ex_skip (blk_nx (nx ?_))
    refine ex_seq ?_
    refine ex_region ?_
    refine ro_lt (r_as (v := iv 1) rfl) rfl ?_
    refine RO.nil (nx ?_)
    obtain rfl := Option.some.inj h
    refine ex_ret ?_
    exact ret1 (.inr rfl) rfl rfl (P1.of_flat HS hs rfl)
  refine ex_if_t rfl (decide_eq_true c42) ?_
  refine ex_seq ?_
  refine ex_region ?_
  refine ro_lt (r_fa (l4.sub HS.sub) fd27_0 rfl) rfl ?_
  refine ro_lt (r_ld ((l4.seg 0 1).sub HS.sub) sc24 rfl) rfl ?_
  refine ro_lt (r_mv (v := iv i) rfl) rfl ?_
  replace h := grd_some h; obtain ⟨g43, h⟩ := h
  obtain ⟨_, q44, l45⟩ := r_s0.idx g43.1 g43.2
  obtain ⟨v46, v48, rfl, r47, r49⟩ := rd_K72 q44
  refine ro_lt (r_ia (r_s0.sub HS.sub) sl24 g43.1 g43.2 rfl rfl) rfl ?_
  refine ro_lt (r_fa (l45.sub HS.sub) fd72_2 rfl) rfl ?_
  refine ro_lt (r_ld ((l45.seg 2 1).sub HS.sub) sc3 rfl) rfl ?_
  refine ro_lt (r_as (v := iv ((((s.1.getD i.toNat (([] : List Int), ([] : List Int), 0, 0)).2).2).1)) rfl) rfl ?_
  refine RO.nil (nx ?_)
  obtain rfl := Option.some.inj h
  refine ex_ret (blk_ret (tq_ret ?_))
  exact ret1 (.inr rfl) rfl rfl (P1.of_flat HS hs rfl)
theorem c_spec_NodeName {w : World} {s : (List (List Int × List Int × Int × Int)) × List Int} {v_s0 : Value} {v_s1 : Value} {i : Int} (r_s0 : Rd (.sl 72 (.prod (.sl 3 (.int .i64)) (.prod (.sl 3 (.int .i64)) (.prod (.int .i64) (.int .i64))))) (hp w) s.1 [v_s0]) (r_s1 : Rd (.sl 3 (.int .i64)) (hp w) s.2 [v_s1]) {r : ByteArray} (h : F_spec_NodeName s i = some r) : Calls Try.prog 139 [.agg #[v_s0, v_s1], iv i].toArray w (P1 .str w r) := by
  unfold F_spec_NodeName at h
  have HS := St.init w
  have hs := Sub.refl (hp w)
  refine calls_ex (n := 30) Try.func139 rfl Try.ntmps139 (Nat.le_of_ble_eq_true rfl) ?_
  refine ex_seq ?_
  refine ex_region ?_
  refine ro_hy (o_boxz HS (cs := [v_s0, v_s1]) rfl rfl) rfl ?_
  rintro _ w2 ⟨g1, H5, rfl, q3, l4, hb, HS⟩
  replace r_s0 := r_s0.sub q3
  replace r_s1 := r_s1.sub q3
  replace hs := hs.trans q3
  refine ro_lt (r_as (v := .string ((⟨#[]⟩ : ByteArray))) rfl) rfl ?_
  refine RO.nil (nx ?_)
  refine ex_seq ?_
  refine ex_seq ?_
  refine ex_region ?_
  refine ro_lt (r_mv (v := iv i) rfl) rfl ?_
  refine ro_lt (r_fa (l4.sub HS.sub) fd27_0 rfl) rfl ?_
  refine ro_lt (r_ld ((l4.seg 0 1).sub HS.sub) sc24 rfl) rfl ?_
  have b6 := (r_s0.sub HS.sub).big
  refine ro_lt (r_len (n := 4) (r_s0.sub HS.sub) sl24 rfl) rfl ?_
  refine ro_lt (r_sub rfl rfl (by omega)) rfl ?_
  replace h := bind_some h; obtain ⟨y7, e8, h⟩ := h
  refine ro_hy (o_cf (vs := [iv i, iv 0, iv ((s.1.length : Int) - 1)]) HS rfl (c_spec_l1In e8) cf64 rfl) rfl ?_
  rintro _ w9 ⟨rfl, hb, HS⟩
  refine ro_lt (r_not rfl) rfl ?_
  refine RO.nil (nx ?_)
  replace h := ite_some h; rcases h with ⟨c10, h⟩ | ⟨c10, h⟩
  rotate_left
  · refine ex_if_t rfl (congrArg (!·) (bf c10)) ?_
    refine ex_seq ?_
    refine ex_region ?_
    refine ro_lt (r_as (v := .string ((⟨#[]⟩ : ByteArray))) rfl) rfl ?_
    refine RO.nil (nx ?_)
    obtain rfl := Option.some.inj h
    refine ex_ret (tq_ret ?_)
    exact ret1 (.inr rfl) rfl rfl (P1.of_flat HS hs rfl)
  refine ex_if_f rfl (congrArg (!·) (c10)) ?_
  refine ex_skip (nx ?_)
  refine ex_seq ?_
  refine ex_region ?_
  refine ro_lt (r_as (v := .string ((⟨#[]⟩ : ByteArray))) rfl) rfl ?_
  refine RO.nil (nx ?_)
  refine ex_seq ?_
  refine ex_region ?_
  refine ro_lt (r_lda (l4.sub HS.sub) ag27 rfl rfl) rfl ?_
  replace h := bind_some h; obtain ⟨y11, e12, h⟩ := h
  refine ro_hy (o_cf (vs := [.agg #[v_s0, v_s1]]) HS rfl (c_spec_CountPredicates (r_s0.sub HS.sub) (r_s1.sub HS.sub) e12) cf165 rfl) rfl ?_
  rintro _ w13 ⟨rfl, hb, HS⟩
  refine ro_lt (r_as (v := iv y11) rfl) rfl ?_
  refine RO.nil (nx ?_)
  refine ex_seq ?_
  refine ex_seq ?_
  refine ex_region ?_
  refine ro_lt (r_as (v := iv 0) rfl) rfl ?_
  refine RO.nil (nx ?_)
  replace h := bind_some h; obtain ⟨y31, e32, h⟩ := h
  refine ex_lbo (fun (st : ByteArray × Int) s' w' => Has s' [(1, iv i), (2, .pointer (some ⟨g1, 0, none⟩)), (4, .string ((⟨#[]⟩ : ByteArray))), (5, .string st.1), (6, iv y11), (7, iv st.2)] ∧ St w H5 w' []) e32 ⟨⟨rfl, rfl, rfl, rfl, rfl, rfl, trivial⟩, HS⟩ ?_ ?_
  · rintro ⟨out_20, k_21⟩ c' s' w22 ⟨hs_, HS⟩ h
    rw [has_put hs_]; clear hs_
    try dsimp only at HS
    replace h : F_spec_NodeName_b1 y11 s i out_20 k_21 = some c' := h
    unfold F_spec_NodeName_b1 at h
    refine ex_seq ?_
    refine ex_seq ?_
    refine ex_region ?_
    refine ro_lt (r_mv (v := iv k_21) rfl) rfl ?_
    refine ro_lt (r_mv (v := iv y11) rfl) rfl ?_
    refine ro_lt (r_lss rfl rfl) rfl ?_
    refine RO.nil (nx ?_)
    replace h := ite_some h; rcases h with ⟨c23, h⟩ | ⟨c23, h⟩
    rotate_left
    · refine ex_if_f rfl (decide_eq_false c23) ?_
      refine ex_exit (tq_exit ?_)
      obtain rfl := Option.some.inj h
      exact lq_out ⟨⟨rfl, rfl, rfl, rfl, rfl, rfl, trivial⟩, HS⟩
    refine ex_if_t rfl (decide_eq_true c23) ?_
    refine ex_skip (nx ?_)
    refine ex_seq ?_
    refine ex_block ?_
    refine ex_region ?_
    refine ro_lt (r_mv (v := .string out_20) rfl) rfl ?_
    refine ro_lt (r_lda (l4.sub HS.sub) ag27 rfl rfl) rfl ?_
    refine ro_lt (r_mv (v := iv k_21) rfl) rfl ?_
    refine ro_lt (r_mv (v := iv i) rfl) rfl ?_
    replace h := bind_some h; obtain ⟨y24, e25, h⟩ := h
    refine ro_hy (o_cf (vs := [.agg #[v_s0, v_s1], iv k_21, iv i]) HS rfl (c_spec_PredicateAt (r_s0.sub HS.sub) (r_s1.sub HS.sub) e25) cf167 rfl) rfl ?_
    rintro _ w26 ⟨rfl, hb, HS⟩
    replace h := bind_some h; obtain ⟨y27, e28, h⟩ := h
    refine ro_hy (o_cf (vs := [iv y24]) HS rfl (c_spec_TruthText e28) cf166 rfl) rfl ?_
    rintro _ w29 ⟨rfl, hb, HS⟩
    replace h := grd_some h; obtain ⟨g30, h⟩ := h
    refine ro_lt (r_sadd rfl rfl g30) rfl ?_
    refine ro_lt (r_as (v := .string (out_20 ++ y27)) rfl) rfl ?_
    refine RO.nil (blk_nx (nx ?_))
    refine ex_region ?_
    refine ro_lt (r_mv (v := iv k_21) rfl) rfl ?_
    refine ro_lt (r_addw rfl rfl) rfl ?_
    refine ro_lt (r_as (v := iv (wi (k_21 + 1))) rfl) rfl ?_
    refine RO.nil ?_
    obtain rfl := Option.some.inj h
    exact lq_go ⟨⟨rfl, rfl, rfl, rfl, rfl, rfl, trivial⟩, HS⟩
  rintro s' w33 ⟨hs_, HS⟩
  rw [has_put hs_]; clear hs_
  refine (nx ?_)
  refine ex_seq ?_
  refine ex_region ?_
  refine ro_lt (r_mv (v := .string y31.1) rfl) rfl ?_
  refine ro_lt (r_as (v := .string y31.1) rfl) rfl ?_
  refine RO.nil (nx ?_)
  obtain rfl := Option.some.inj h
  refine ex_ret ?_
  exact ret1 (.inr rfl) rfl rfl (P1.of_flat HS hs rfl)
theorem c_spec_l17Groups {w : World} {s : (List (List Int × List Int × Int × Int)) × List Int} {v_s0 : Value} {v_s1 : Value} (r_s0 : Rd (.sl 72 (.prod (.sl 3 (.int .i64)) (.prod (.sl 3 (.int .i64)) (.prod (.int .i64) (.int .i64))))) (hp w) s.1 [v_s0]) (r_s1 : Rd (.sl 3 (.int .i64)) (hp w) s.2 [v_s1]) {r : (List (List Int))} (h : F_spec_l17Groups s = some r) : Calls Try.prog 87 [.agg #[v_s0, v_s1]].toArray w (P1 (.sl 25 (.sl 3 (.int .i64))) w r) := by
  unfold F_spec_l17Groups at h
  have HS := St.init w
  have hs := Sub.refl (hp w)
  refine calls_ex (n := 86) Try.func87 rfl Try.ntmps87 (Nat.le_of_ble_eq_true rfl) ?_
  refine ex_seq ?_
  refine ex_region ?_
  refine ro_hy (o_boxz HS (cs := [v_s0, v_s1]) rfl rfl) rfl ?_
  rintro _ w2 ⟨g1, H5, rfl, q3, l4, hb, HS⟩
  replace r_s0 := r_s0.sub q3
  replace r_s1 := r_s1.sub q3
  replace hs := hs.trans q3
  refine ro_lt (r_as (v := .slice none 0 0) rfl) rfl ?_
  refine RO.nil (nx ?_)
  refine ex_seq ?_
  refine ex_region ?_
  refine ro_hy (o_bsv HS (cs := []) sl102 zz9 (vs := []) rfl rfl vc0 rfl rfl (by decide)) rfl ?_
  rintro _ w7 ⟨g6, rfl, hb, HS⟩
  replace HS := HS.lit0 .str
  refine ro_lt (r_as (v := (.slice (some ⟨g6, 0, none⟩) 0 0)) rfl) rfl ?_
  refine RO.nil (nx ?_)
  refine ex_seq ?_
  refine ex_region ?_
  refine ro_hy (o_bsv HS (cs := []) sl97 zz25 (vs := []) rfl rfl vc0 rfl rfl (by decide)) rfl ?_
  rintro _ w10 ⟨g9, rfl, hb, HS⟩
  replace HS := HS.lit0 (.sl 3 (.int .i64))
  refine ro_lt (r_as (v := (.slice (some ⟨g9, 0, none⟩) 0 0)) rfl) rfl ?_
  refine RO.nil (nx ?_)
  refine ex_seq ?_
  refine ex_seq ?_
  refine ex_region ?_
  refine ro_lt (r_as (v := iv 0) rfl) rfl ?_
  refine RO.nil (nx ?_)
  replace h := bind_some h; obtain ⟨y175, e176, h⟩ := h
  refine ex_lbo (fun (st : (List ByteArray) × (List (List Int)) × Int) s' w' => ∃ v25 : Value, ∃ v28 : Value, Has s' [(1, .pointer (some ⟨g1, 0, none⟩)), (2, .slice none 0 0), (3, v25), (4, v28), (5, iv st.2.2)] ∧ St w H5 w' [.ow (.sl 25 (.sl 3 (.int .i64))) st.2.1 [v28], .ow (.sl 9 .str) st.1 [v25]]) e176 ⟨(.slice (some ⟨g6, 0, none⟩) 0 0), (.slice (some ⟨g9, 0, none⟩) 0 0), ⟨rfl, rfl, rfl, rfl, rfl, trivial⟩, HS⟩ ?_ ?_
  · rintro ⟨names_23, out_26, i_29⟩ c' s' w30 ⟨v25, v28, hs_, HS⟩ h
    rw [has_put hs_]; clear hs_
    try dsimp only at HS
    replace h : F_spec_l17Groups_b2 s names_23 out_26 i_29 = some c' := h
    unfold F_spec_l17Groups_b2 at h
    refine ex_seq ?_
    refine ex_seq ?_
    refine ex_region ?_
    refine ro_lt (r_mv (v := iv i_29) rfl) rfl ?_
    refine ro_lt (r_fa (l4.sub HS.sub) fd27_0 rfl) rfl ?_
    refine ro_lt (r_ld ((l4.seg 0 1).sub HS.sub) sc24 rfl) rfl ?_
    have b31 := (r_s0.sub HS.sub).big
    refine ro_lt (r_len (n := 4) (r_s0.sub HS.sub) sl24 rfl) rfl ?_
    refine ro_lt (r_lss rfl rfl) rfl ?_
    refine RO.nil (nx ?_)
    replace h := ite_some h; rcases h with ⟨c32, h⟩ | ⟨c32, h⟩
    rotate_left
    · refine ex_if_f rfl (decide_eq_false c32) ?_
      refine ex_exit (tq_exit ?_)
      obtain rfl := Option.some.inj h
      exact lq_out ⟨v25, v28, ⟨rfl, rfl, rfl, rfl, rfl, trivial⟩, HS⟩
    refine ex_if_t rfl (decide_eq_true c32) ?_
    refine ex_skip (nx ?_)
    refine ex_seq ?_
    refine ex_block ?_
    refine ex_seq ?_
    refine ex_region ?_
    refine ro_lt (r_lda (l4.sub HS.sub) ag27 rfl rfl) rfl ?_
    refine ro_lt (r_mv (v := iv i_29) rfl) rfl ?_
    replace h := bind_some h; obtain ⟨y33, e34, h⟩ := h
    refine ro_hy (o_cf (vs := [.agg #[v_s0, v_s1], iv i_29]) HS rfl (c_spec_NodeName (r_s0.sub HS.sub) (r_s1.sub HS.sub) e34) cf139 rfl) rfl ?_
    rintro _ w35 ⟨rfl, hb, HS⟩
    refine ro_lt (r_as (v := .string y33) rfl) rfl ?_
    refine RO.nil (nx ?_)
    refine ex_seq ?_
    refine ex_region ?_
    refine ro_lt (r_as (v := iv 0) rfl) rfl ?_
    refine RO.nil (nx ?_)
    refine ex_seq ?_
    replace h := bind_some h; obtain ⟨y44, e45, h⟩ := h
    refine ex_lbo (fun (st : Int) s' w' => Has s' [(1, .pointer (some ⟨g1, 0, none⟩)), (2, .slice none 0 0), (3, v25), (4, v28), (5, iv i_29), (6, .string y33), (7, iv st)] ∧ St w H5 w' [.ow (.sl 25 (.sl 3 (.int .i64))) out_26 [v28], .ow (.sl 9 .str) names_23 [v25]]) e45 ⟨⟨rfl, rfl, rfl, rfl, rfl, rfl, rfl, trivial⟩, HS⟩ ?_ ?_
    · rintro at_38 c' s' w39 ⟨hs_, HS⟩ h
      rw [has_put hs_]; clear hs_
      replace h : F_spec_l17Groups_b1 names_23 y33 at_38 = some c' := h
      unfold F_spec_l17Groups_b1 at h
      refine ex_seq ?_
      refine ex_seq ?_
      refine ex_region ?_
      refine ro_lt (r_mv (v := iv at_38) rfl) rfl ?_
      refine ro_lt (r_mv (v := v25) rfl) rfl ?_
      have b40 := (HS.rd 1 rfl).big
      refine ro_lt (r_len (n := 1) (HS.rd 1 rfl) sl102 rfl) rfl ?_
      refine ro_lt (r_lss rfl rfl) rfl ?_
      refine ro_lt (r_mv (v := .bool ((decide (at_38 < (names_23.length : Int))))) rfl) rfl ?_
      replace h := ite_some h; rcases h with ⟨c41, h⟩ | ⟨c41, h⟩
      rotate_left
      · refine ro_off (sb (decide_eq_false c41)) rfl rfl ?_
        refine ro_off (sb (decide_eq_false c41)) rfl rfl ?_
        refine ro_off (sb (decide_eq_false c41)) rfl rfl ?_
        refine ro_off (sb (decide_eq_false c41)) rfl rfl ?_
        refine ro_off (sb (decide_eq_false c41)) rfl rfl ?_
        refine ro_off (sb (decide_eq_false c41)) rfl rfl ?_
        refine ro_lt (r_pickf (v := .bool false) (decide_eq_false c41) rfl rfl) rfl ?_
        refine RO.nil (nx ?_)
        refine ex_if_f rfl (rfl) ?_
        refine ex_exit (tq_exit ?_)
        obtain rfl := Option.some.inj h
        exact lq_out ⟨⟨rfl, rfl, rfl, rfl, rfl, rfl, rfl, trivial⟩, HS⟩
      refine ro_on (sb (decide_eq_true c41)) ?_
      refine ro_lt (r_mv (v := v25) rfl) rfl ?_
      refine ro_on (sb (decide_eq_true c41)) ?_
      refine ro_lt (r_mv (v := iv at_38) rfl) rfl ?_
      replace h := grd_some h; obtain ⟨g42, h⟩ := h
      refine ro_on (sb (decide_eq_true c41)) ?_
      refine ro_lt (r_ia (HS.rd 1 rfl) sl102 g42.1 g42.2 rfl rfl) rfl ?_
      refine ro_on (sb (decide_eq_true c41)) ?_
      refine ro_lt (r_ld ((HS.rd 1 rfl).strE g42.1 g42.2) sc9 rfl) rfl ?_
      refine ro_on (sb (decide_eq_true c41)) ?_
      refine ro_lt (r_mv (v := .string y33) rfl) rfl ?_
      refine ro_on (sb (decide_eq_true c41)) ?_
      refine ro_lt (r_slss rfl rfl) rfl ?_
      refine ro_lt (r_pickt (v := .bool ((decide (Op.bytesLess (names_23.getD at_38.toNat ByteArray.empty).toList y33.toList = true)))) (decide_eq_true c41) rfl rfl) rfl ?_
      refine RO.nil (nx ?_)
      replace h := ite_some h; rcases h with ⟨c43, h⟩ | ⟨c43, h⟩
      rotate_left
      · refine ex_if_f rfl (decide_eq_false c43) ?_
        refine ex_exit (tq_exit ?_)
        obtain rfl := Option.some.inj h
        exact lq_out ⟨⟨rfl, rfl, rfl, rfl, rfl, rfl, rfl, trivial⟩, HS⟩
      refine ex_if_t rfl (decide_eq_true c43) ?_
      refine ex_skip (nx ?_)
      refine ex_block ?_
      refine ex_region ?_
      refine ro_lt (r_mv (v := iv at_38) rfl) rfl ?_
      refine ro_lt (r_addw rfl rfl) rfl ?_
      refine ro_lt (r_as (v := iv (wi (at_38 + 1))) rfl) rfl ?_
      refine RO.nil (blk_nx ?_)
      obtain rfl := Option.some.inj h
      exact lq_go ⟨⟨rfl, rfl, rfl, rfl, rfl, rfl, rfl, trivial⟩, HS⟩
    rintro s' w46 ⟨hs_, HS⟩
    rw [has_put hs_]; clear hs_
    refine (nx ?_)
    refine ex_seq ?_
    refine ex_seq ?_
    refine ex_region ?_
    refine ro_lt (r_mv (v := iv y44) rfl) rfl ?_
    refine ro_lt (r_mv (v := v25) rfl) rfl ?_
    have b48 := (HS.rd 1 rfl).big
    refine ro_lt (r_len (n := 1) (HS.rd 1 rfl) sl102 rfl) rfl ?_
    refine ro_lt (r_lss rfl rfl) rfl ?_
    refine ro_lt (r_mv (v := .bool ((decide (y44 < (names_23.length : Int))))) rfl) rfl ?_
    replace h := ite_some h; rcases h with ⟨c49, h⟩ | ⟨c49, h⟩
    rotate_left
    · refine ro_off (sb (decide_eq_false c49)) rfl rfl ?_
      refine ro_off (sb (decide_eq_false c49)) rfl rfl ?_
      refine ro_off (sb (decide_eq_false c49)) rfl rfl ?_
      refine ro_off (sb (decide_eq_false c49)) rfl rfl ?_
      refine ro_off (sb (decide_eq_false c49)) rfl rfl ?_
      refine ro_off (sb (decide_eq_false c49)) rfl rfl ?_
      refine ro_lt (r_pickf (v := .bool false) (decide_eq_false c49) rfl rfl) rfl ?_
      refine RO.nil (nx ?_)
      refine ex_if_f rfl (rfl) ?_
      refine ex_skip (nx ?_)
      refine ex_seq ?_
      refine ex_region ?_
      refine ro_hy (o_bsv HS (cs := []) sl102 zz9 (vs := []) rfl rfl vc0 rfl rfl (by decide)) rfl ?_
      rintro _ w123 ⟨g122, rfl, hb, HS⟩
      replace HS := HS.lit0 .str
      refine ro_lt (r_mv (v := v25) rfl) rfl ?_
      refine ro_lt (r_mv (v := iv y44) rfl) rfl ?_
      replace h := grd_some h; obtain ⟨g125, h⟩ := h
      have r126 := Rd.lo (t := .str) (l := y44.toNat) (HS.rd 2 rfl) (by omega)
      refine ro_lt (r_sllo (t := .str) (HS.rd 2 rfl) g125.1 g125.2 sl102 rfl rfl) rfl ?_
      replace h := grd_some h; obtain ⟨g127, h⟩ := h
      refine ro_hy (o_appn (e2 := 9) HS rfl r126 rfl rfl sl102 zz9 g127) rfl ?_
      rintro v129 w130 ⟨HS, hk⟩
      refine ro_lt (r_as (v := v129) rfl) rfl ?_
      refine RO.nil (nx ?_)
      refine ex_seq ?_
      refine ex_region ?_
      refine ro_lt (r_mv (v := v25) rfl) rfl ?_
      refine ro_lt (r_mv (v := iv y44) rfl) rfl ?_
      refine ro_lt (r_slhi (t := .str) (HS.rd 2 rfl) g125.1 g125.2 sl102 rfl rfl) rfl ?_
      replace HS := (HS.sel (G := [_, _, _]) [2] 0 rfl).hi g125.1 g125.2
      refine ro_lt (r_mv (v := .string y33) rfl) rfl ?_
      refine ro_hy (o_bsv HS (cs := [.string y33]) sl102 zz9 (vs := [.string y33]) rfl rfl (vc rfl vc0) rfl rfl (by decide)) rfl ?_
      rintro _ w135 ⟨g134, rfl, hb, HS⟩
      replace h := grd_some h; obtain ⟨g137, h⟩ := h
      refine ro_hy (o_appf (HS.sel (G := [_, _, _, _]) [1] 0 rfl) rfl rfl rfl rfl sl102 zz9 g137) rfl ?_
      rintro v139 w140 ⟨HS, hk⟩
      refine ro_lt (r_mv (v := v129) rfl) rfl ?_
      replace h := grd_some h; obtain ⟨g142, h⟩ := h
      refine ro_hy (o_appn (e2 := 9) HS rfl (HS.rd 1 rfl) rfl rfl sl102 zz9 g142) rfl ?_
      rintro v144 w145 ⟨HS, hk⟩
      refine ro_lt (r_as (v := v144) rfl) rfl ?_
      refine RO.nil (nx ?_)
      refine ex_seq ?_
      refine ex_region ?_
      refine ro_hy (o_bsv HS (cs := []) sl97 zz25 (vs := []) rfl rfl vc0 rfl rfl (by decide)) rfl ?_
      rintro _ w148 ⟨g147, rfl, hb, HS⟩
      replace HS := HS.lit0 (.sl 3 (.int .i64))
      refine ro_lt (r_mv (v := v28) rfl) rfl ?_
      refine ro_lt (r_mv (v := iv y44) rfl) rfl ?_
      replace h := grd_some h; obtain ⟨g150, h⟩ := h
      have r151 := Rd.lo (t := (.sl 3 (.int .i64))) (l := y44.toNat) (HS.rd 3 rfl) (by omega)
      refine ro_lt (r_sllo (t := (.sl 3 (.int .i64))) (HS.rd 3 rfl) g150.1 g150.2 sl97 rfl rfl) rfl ?_
      replace h := grd_some h; obtain ⟨g152, h⟩ := h
      have q153 := HS.rd 3 rfl
      refine ro_hy (o_appmv (t := (.sl 3 (.int .i64))) (l := y44) ((HS.sel (G := [_, _, _, _]) [3] 0 rfl).sel (G := [_, _, _, _]) [1] 0 rfl) g150.1 g150.2 rfl rfl sl97 zz25 g152) rfl ?_
      rintro v155 w156 ⟨HS, hk⟩
      refine ro_lt (r_as (v := v155) rfl) rfl ?_
      refine RO.nil (nx ?_)
      refine ex_region ?_
      refine ro_lt (r_mv (v := v28) rfl) rfl ?_
      refine ro_lt (r_mv (v := iv y44) rfl) rfl ?_
      refine ro_lt (r_slhi (t := (.sl 3 (.int .i64))) q153 g150.1 g150.2 sl97 rfl rfl) rfl ?_
      refine ro_lt (r_mv (v := iv i_29) rfl) rfl ?_
      refine ro_hy (o_bsv HS (cs := [iv i_29]) sl25 zz3 (vs := [iv i_29]) rfl rfl (vc rfl vc0) rfl rfl (by decide)) rfl ?_
      rintro _ w160 ⟨g159, rfl, hb, HS⟩
      replace HS := HS.lit (t := (.int .i64)) (xs := [i_29]) rfl (rdC_int (k := .i64) [i_29]) (Nat.le_of_ble_eq_true rfl)
      refine ro_hy (o_bsv HS (cs := [(.slice (some ⟨g159, 0, none⟩) 1 1)]) sl97 zz25 (vs := [(.slice (some ⟨g159, 0, none⟩) 1 1)]) rfl rfl (vc (HS.rd 0 rfl).vc vc0) rfl rfl (by decide)) rfl ?_
      rintro _ w163 ⟨g162, rfl, hb, HS⟩
      replace h := grd_some h; obtain ⟨g165, h⟩ := h
      refine ro_hy (o_app1 ((HS.sel (G := [_, _, _, _, _, _]) [1] 0 rfl).sel (G := [_, _, _, _, _, _]) [3] 0 rfl) rfl rfl sl97 zz25 g165) rfl ?_
      rintro v167 w168 ⟨HS, hk⟩
      refine ro_lt (r_mv (v := v155) rfl) rfl ?_
      replace h := grd_some h; obtain ⟨g170, h⟩ := h
      refine ro_hy (o_appall (t := (.sl 3 (.int .i64))) ((HS.sel (G := [_, _, _, _]) [1] 0 rfl).sel (G := [_, _, _, _]) [1] 0 rfl) rfl rfl sl97 zz25 g170) rfl ?_
      rintro v172 w173 ⟨HS, hk⟩
      refine ro_lt (r_as (v := v172) rfl) rfl ?_
      refine RO.nil (blk_nx (nx ?_))
      refine ex_region ?_
      refine ro_lt (r_mv (v := iv i_29) rfl) rfl ?_
      refine ro_lt (r_addw rfl rfl) rfl ?_
      refine ro_lt (r_as (v := iv (wi (i_29 + 1))) rfl) rfl ?_
      refine RO.nil ?_
      obtain rfl := Option.some.inj h
      exact lq_go ⟨v144, v172, ⟨rfl, rfl, rfl, rfl, rfl, trivial⟩, (HS.sel (G := [_, _]) [0, 0] 1 rfl)⟩
    refine ro_on (sb (decide_eq_true c49)) ?_
    refine ro_lt (r_mv (v := v25) rfl) rfl ?_
    refine ro_on (sb (decide_eq_true c49)) ?_
    refine ro_lt (r_mv (v := iv y44) rfl) rfl ?_
    replace h := grd_some h; obtain ⟨g50, h⟩ := h
    refine ro_on (sb (decide_eq_true c49)) ?_
    refine ro_lt (r_ia (HS.rd 1 rfl) sl102 g50.1 g50.2 rfl rfl) rfl ?_
    refine ro_on (sb (decide_eq_true c49)) ?_
    refine ro_lt (r_ld ((HS.rd 1 rfl).strE g50.1 g50.2) sc9 rfl) rfl ?_
    refine ro_on (sb (decide_eq_true c49)) ?_
    refine ro_lt (r_mv (v := .string y33) rfl) rfl ?_
    refine ro_on (sb (decide_eq_true c49)) ?_
    refine ro_lt (r_seql rfl rfl) rfl ?_
    refine ro_lt (r_pickt (v := .bool ((decide ((names_23.getD y44.toNat ByteArray.empty).toList = y33.toList)))) (decide_eq_true c49) rfl rfl) rfl ?_
    refine RO.nil (nx ?_)
    replace h := ite_some h; rcases h with ⟨c51, h⟩ | ⟨c51, h⟩
    · refine ex_if_t rfl (decide_eq_true c51) ?_
      refine ex_seq ?_
      refine ex_region ?_
      refine ro_lt (r_mv (v := v28) rfl) rfl ?_
      refine ro_lt (r_mv (v := iv y44) rfl) rfl ?_
      refine ro_lt (r_mv (v := v28) rfl) rfl ?_
      refine ro_lt (r_mv (v := iv y44) rfl) rfl ?_
      replace h := grd_some h; obtain ⟨g52, h⟩ := h
      obtain ⟨v53, r54, l55⟩ := (HS.rd 0 rfl).slE g52.1 g52.2
      refine ro_lt (r_ia (HS.rd 0 rfl) sl97 g52.1 g52.2 rfl rfl) rfl ?_
      refine ro_lt (r_ld l55 sc25 rfl) rfl ?_
      refine ro_lt (r_mv (v := iv i_29) rfl) rfl ?_
      refine ro_hy (o_bsv HS (cs := [iv i_29]) sl25 zz3 (vs := [iv i_29]) rfl rfl (vc rfl vc0) rfl rfl (by decide)) rfl ?_
      rintro _ w57 ⟨g56, rfl, hb, HS⟩
      replace r54 := r54.sub (Below.sub' hb)
      replace l55 := l55.sub (Below.sub' hb)
      replace h := grd_some h; obtain ⟨g59, h⟩ := h
      have q60 := HS.rd 1 rfl
      refine ro_hy (o_appf (t := (.int .i64)) (((HS.sel (G := [_, _, _]) [1] 0 rfl).opnS (t := (.sl 3 (.int .i64))) g52.1 g52.2 l55 rfl).sel (G := [_, _, _, _]) [0, 1] 0 rfl) rfl rfl rfl rfl sl25 zz3 g59) rfl ?_
      rintro v63 w64 ⟨HS, hk⟩
      refine ro_lt (r_ia q60 sl97 g52.1 g52.2 rfl rfl) rfl ?_
      refine ro_hy (o_sths (t := (.sl 3 (.int .i64))) (i := y44) (x' := (out_26.getD y44.toNat []) ++ [i_29]) (cs := [v63]) HS st25 rfl rfl (HS.rd 0 rfl).vc) rfl ?_
      rintro _ w67 ⟨rfl, hk, HS⟩
      refine RO.nil (nx ?_)
      refine ex_exit (tq_exit (blk_exit (nx ?_)))
      refine ex_region ?_
      refine ro_lt (r_mv (v := iv i_29) rfl) rfl ?_
      refine ro_lt (r_addw rfl rfl) rfl ?_
      refine ro_lt (r_as (v := iv (wi (i_29 + 1))) rfl) rfl ?_
      refine RO.nil ?_
      obtain rfl := Option.some.inj h
      exact lq_go ⟨v25, v28, ⟨rfl, rfl, rfl, rfl, rfl, trivial⟩, HS⟩
    refine ex_if_f rfl (decide_eq_false c51) ?_
    refine ex_skip (nx ?_)
    refine ex_seq ?_
    refine ex_region ?_
    refine ro_hy (o_bsv HS (cs := []) sl102 zz9 (vs := []) rfl rfl vc0 rfl rfl (by decide)) rfl ?_
    rintro _ w70 ⟨g69, rfl, hb, HS⟩
    replace HS := HS.lit0 .str
    refine ro_lt (r_mv (v := v25) rfl) rfl ?_
    refine ro_lt (r_mv (v := iv y44) rfl) rfl ?_
    replace h := grd_some h; obtain ⟨g72, h⟩ := h
    have r73 := Rd.lo (t := .str) (l := y44.toNat) (HS.rd 2 rfl) (by omega)
    refine ro_lt (r_sllo (t := .str) (HS.rd 2 rfl) g72.1 g72.2 sl102 rfl rfl) rfl ?_
    replace h := grd_some h; obtain ⟨g74, h⟩ := h
    refine ro_hy (o_appn (e2 := 9) HS rfl r73 rfl rfl sl102 zz9 g74) rfl ?_
    rintro v76 w77 ⟨HS, hk⟩
    refine ro_lt (r_as (v := v76) rfl) rfl ?_
    refine RO.nil (nx ?_)
    refine ex_seq ?_
    refine ex_region ?_
    refine ro_lt (r_mv (v := v25) rfl) rfl ?_
    refine ro_lt (r_mv (v := iv y44) rfl) rfl ?_
    refine ro_lt (r_slhi (t := .str) (HS.rd 2 rfl) g72.1 g72.2 sl102 rfl rfl) rfl ?_
    replace HS := (HS.sel (G := [_, _, _]) [2] 0 rfl).hi g72.1 g72.2
    refine ro_lt (r_mv (v := .string y33) rfl) rfl ?_
    refine ro_hy (o_bsv HS (cs := [.string y33]) sl102 zz9 (vs := [.string y33]) rfl rfl (vc rfl vc0) rfl rfl (by decide)) rfl ?_
    rintro _ w82 ⟨g81, rfl, hb, HS⟩
    replace h := grd_some h; obtain ⟨g84, h⟩ := h
    refine ro_hy (o_appf (HS.sel (G := [_, _, _, _]) [1] 0 rfl) rfl rfl rfl rfl sl102 zz9 g84) rfl ?_
    rintro v86 w87 ⟨HS, hk⟩
    refine ro_lt (r_mv (v := v76) rfl) rfl ?_
    replace h := grd_some h; obtain ⟨g89, h⟩ := h
    refine ro_hy (o_appn (e2 := 9) HS rfl (HS.rd 1 rfl) rfl rfl sl102 zz9 g89) rfl ?_
    rintro v91 w92 ⟨HS, hk⟩
    refine ro_lt (r_as (v := v91) rfl) rfl ?_
    refine RO.nil (nx ?_)
    refine ex_seq ?_
    refine ex_region ?_
    refine ro_hy (o_bsv HS (cs := []) sl97 zz25 (vs := []) rfl rfl vc0 rfl rfl (by decide)) rfl ?_
    rintro _ w95 ⟨g94, rfl, hb, HS⟩
    replace HS := HS.lit0 (.sl 3 (.int .i64))
    refine ro_lt (r_mv (v := v28) rfl) rfl ?_
    refine ro_lt (r_mv (v := iv y44) rfl) rfl ?_
    replace h := grd_some h; obtain ⟨g97, h⟩ := h
    have r98 := Rd.lo (t := (.sl 3 (.int .i64))) (l := y44.toNat) (HS.rd 3 rfl) (by omega)
    refine ro_lt (r_sllo (t := (.sl 3 (.int .i64))) (HS.rd 3 rfl) g97.1 g97.2 sl97 rfl rfl) rfl ?_
    replace h := grd_some h; obtain ⟨g99, h⟩ := h
    have q100 := HS.rd 3 rfl
    refine ro_hy (o_appmv (t := (.sl 3 (.int .i64))) (l := y44) ((HS.sel (G := [_, _, _, _]) [3] 0 rfl).sel (G := [_, _, _, _]) [1] 0 rfl) g97.1 g97.2 rfl rfl sl97 zz25 g99) rfl ?_
    rintro v102 w103 ⟨HS, hk⟩
    refine ro_lt (r_as (v := v102) rfl) rfl ?_
    refine RO.nil (nx ?_)
    refine ex_region ?_
    refine ro_lt (r_mv (v := v28) rfl) rfl ?_
    refine ro_lt (r_mv (v := iv y44) rfl) rfl ?_
    refine ro_lt (r_slhi (t := (.sl 3 (.int .i64))) q100 g97.1 g97.2 sl97 rfl rfl) rfl ?_
    refine ro_lt (r_mv (v := iv i_29) rfl) rfl ?_
    refine ro_hy (o_bsv HS (cs := [iv i_29]) sl25 zz3 (vs := [iv i_29]) rfl rfl (vc rfl vc0) rfl rfl (by decide)) rfl ?_
    rintro _ w107 ⟨g106, rfl, hb, HS⟩
    replace HS := HS.lit (t := (.int .i64)) (xs := [i_29]) rfl (rdC_int (k := .i64) [i_29]) (Nat.le_of_ble_eq_true rfl)
    refine ro_hy (o_bsv HS (cs := [(.slice (some ⟨g106, 0, none⟩) 1 1)]) sl97 zz25 (vs := [(.slice (some ⟨g106, 0, none⟩) 1 1)]) rfl rfl (vc (HS.rd 0 rfl).vc vc0) rfl rfl (by decide)) rfl ?_
    rintro _ w110 ⟨g109, rfl, hb, HS⟩
    replace h := grd_some h; obtain ⟨g112, h⟩ := h
    refine ro_hy (o_app1 ((HS.sel (G := [_, _, _, _, _, _]) [1] 0 rfl).sel (G := [_, _, _, _, _, _]) [3] 0 rfl) rfl rfl sl97 zz25 g112) rfl ?_
    rintro v114 w115 ⟨HS, hk⟩
    refine ro_lt (r_mv (v := v102) rfl) rfl ?_
    replace h := grd_some h; obtain ⟨g117, h⟩ := h
    refine ro_hy (o_appall (t := (.sl 3 (.int .i64))) ((HS.sel (G := [_, _, _, _]) [1] 0 rfl).sel (G := [_, _, _, _]) [1] 0 rfl) rfl rfl sl97 zz25 g117) rfl ?_
    rintro v119 w120 ⟨HS, hk⟩
    refine ro_lt (r_as (v := v119) rfl) rfl ?_
    refine RO.nil (blk_nx (nx ?_))
    refine ex_region ?_
    refine ro_lt (r_mv (v := iv i_29) rfl) rfl ?_
    refine ro_lt (r_addw rfl rfl) rfl ?_
    refine ro_lt (r_as (v := iv (wi (i_29 + 1))) rfl) rfl ?_
    refine RO.nil ?_
    obtain rfl := Option.some.inj h
    exact lq_go ⟨v91, v119, ⟨rfl, rfl, rfl, rfl, rfl, trivial⟩, (HS.sel (G := [_, _]) [0, 0] 1 rfl)⟩
  rintro s' w177 ⟨v25, v28, hs_, HS⟩
  rw [has_put hs_]; clear hs_
  refine (nx ?_)
  refine ex_seq ?_
  refine ex_region ?_
  refine ro_lt (r_mv (v := v28) rfl) rfl ?_
  refine ro_lt (r_as (v := v28) rfl) rfl ?_
  refine RO.nil (nx ?_)
  obtain rfl := Option.some.inj h
  refine ex_ret ?_
  exact ret1 (.inr rfl) rfl rfl (P1.of HS hs)
theorem c_spec_l17Node {w : World} {s : (List (List Int × List Int × Int × Int)) × List Int} {v_s0 : Value} {v_s1 : Value} {group : List Int} {v_group : Value} (r_s0 : Rd (.sl 72 (.prod (.sl 3 (.int .i64)) (.prod (.sl 3 (.int .i64)) (.prod (.int .i64) (.int .i64))))) (hp w) s.1 [v_s0]) (r_s1 : Rd (.sl 3 (.int .i64)) (hp w) s.2 [v_s1]) (r_group : Rd (.sl 3 (.int .i64)) (hp w) group [v_group]) {r : (List Int × List Int × Int × Int)} (h : F_spec_l17Node s group = some r) : Calls Try.prog 88 [.agg #[v_s0, v_s1], v_group].toArray w (P1 (.prod (.sl 3 (.int .i64)) (.prod (.sl 3 (.int .i64)) (.prod (.int .i64) (.int .i64)))) w r) := by
  unfold F_spec_l17Node at h
  have HS := St.init w
  have hs := Sub.refl (hp w)
  refine calls_ex (n := 38) Try.func88 rfl Try.ntmps88 (Nat.le_of_ble_eq_true rfl) ?_
  refine ex_seq ?_
  refine ex_region ?_
  refine ro_hy (o_boxz HS (cs := [v_s0, v_s1]) rfl rfl) rfl ?_
  rintro _ w2 ⟨g1, H5, rfl, q3, l4, hb, HS⟩
  replace r_s0 := r_s0.sub q3
  replace r_s1 := r_s1.sub q3
  replace r_group := r_group.sub q3
  replace hs := hs.trans q3
  refine ro_hy (o_alloc HS (cs := [.slice none 0 0, .slice none 0 0, iv 0, iv 0]) ze72 rfl) rfl ?_
  rintro _ w7 ⟨g6, rfl, hb, HS⟩
  refine RO.nil (nx ?_)
  refine ex_seq ?_
  refine ex_dr (Mm H5 []) (fun _ => True) [0, 1, 0, 4, 12, 31, 63, 127, 0, 511] [7, 8, 9] (.op 0 (.op 1 (.op 2 (.op 3 (.op 4 (.op 5 (.op 6 (.alts (.br 7 (.op 8 (.op 9 .nil)) (.br 8 (.op 7 (.op 9 .nil)) .stop)))))))))) mix (by kernel_rfl) (by kernel_rfl) ?_
  intro w9 hw hb; have HS := HS.ext hb; clear hw hb
  refine RT.lt rfl rfl rfl rfl (fun w' k => r_fa (l4.sub HS.sub) fd27_0 rfl) ?_
  refine RT.lt rfl rfl rfl rfl (fun w' k => r_ld ((l4.seg 0 1).kp HS.sub k.kp (mh rfl)) sc24 rfl) ?_
  refine RT.lt rfl rfl rfl rfl (fun w' k => r_mv (v := v_group) rfl) ?_
  replace h := grd_some h; obtain ⟨g10, h⟩ := h
  refine RT.lt rfl rfl rfl rfl (fun w' k => r_ia (r_group.sub HS.sub) sl25 (by omega) g10 rfl rfl) ?_
  refine RT.lt rfl rfl rfl rfl (fun w' k => r_ld ((r_group.int (by omega) g10).kp HS.sub k.kp (mh rfl)) sc3 rfl) ?_
  replace h := grd_some h; obtain ⟨g11, h⟩ := h
  obtain ⟨_, q12, l13⟩ := r_s0.idx g11.1 g11.2
  obtain ⟨v14, v16, rfl, r15, r17⟩ := rd_K72 q12
  refine RT.lt rfl rfl rfl rfl (fun w' k => r_ia (r_s0.sub HS.sub) sl24 g11.1 g11.2 rfl rfl) ?_
  refine RT.lt rfl rfl rfl rfl (fun w' k => r_lda (l13.kp HS.sub k.kp (mh rfl)) ag72 rfl rfl) ?_
  replace h := bind_some h; obtain ⟨y518, e519, h⟩ := h
  refine RT.alts ?_
  refine RT.br rfl rfl rfl rfl (o_c1 (vs := [.agg #[v14, v16, iv ((((s.1.getD (group.getD (0 : Int).toNat 0).toNat (([] : List Int), ([] : List Int), 0, 0)).2).2).1), iv ((((s.1.getD (group.getD (0 : Int).toNat 0).toNat (([] : List Int), ([] : List Int), 0, 0)).2).2).2)]]) HS (c_spec_l12CopyNode (r15.sub HS.sub) (r17.sub HS.sub) e519) cf109 rfl) (fun _ _ ⟨_, _, hb, _⟩ => km_below hb (fun _ => trivial)) ?_ ?_
  · rintro _ w618 ⟨cs619, rfl, hb, HS⟩
    replace HS := st_K72 HS
    obtain ⟨v621, v623, rfl, HS⟩ := HS
    refine RT.hy rfl rfl rfl rfl rfl (o_alloc HS (cs := [.slice none 0 0, .slice none 0 0, iv 0, iv 0]) ze72 rfl) (fun _ _ ⟨_, _, hb, _⟩ => km_below hb (fun _ => trivial)) ?_
    rintro _ w625 ⟨g624, rfl, hb, HS⟩
    refine RT.hy rfl rfl rfl rfl rfl (o_str (off := 0) (vs := [v621, v623, iv y518.2.2.1, iv y518.2.2.2]) (l' := [v621, v623, iv y518.2.2.1, iv y518.2.2.2]) HS rfl rfl rfl st72 rfl rfl (pl (HS.rd 1 rfl).pl (pl (HS.rd 2 rfl).pl (pl rfl (pl rfl pl0)))) rfl) (fun _ _ ⟨_, hk, HS2⟩ => km_st HS (Sub.refl _) (hk (fun b => b = g624) rfl) (fun b hb => hb ▸ bx_none HS) (by kernel_rfl) (fun _ => trivial)) ?_
    rintro _ w627 ⟨rfl, hk, HS⟩
    refine RT.nil (nx ?_)
    refine ex_seq ?_
    refine ex_seq ?_
    refine ex_region ?_
    refine ro_lt (r_as (v := iv 0) rfl) rfl ?_
    refine RO.nil (nx ?_)
    replace h := bind_some h; obtain ⟨y655, e656, h⟩ := h
    refine ex_lbo (fun (st : Int × Int) s' w' => Has s' [(1, v_group), (2, .pointer (some ⟨g1, 0, none⟩)), (4, .pointer (some ⟨g6, 0, none⟩)), (5, .pointer (some ⟨g624, 0, none⟩)), (6, iv st.2)] ∧ St w H5 w' [.bx g624 72 [v621, v623, iv y518.2.2.1, iv st.1], .ow (.sl 3 (.int .i64)) y518.1 [v621], .ow (.sl 3 (.int .i64)) y518.2.1 [v623], .bx g6 72 [.slice none 0 0, .slice none 0 0, iv 0, iv 0]]) e656 ⟨⟨rfl, rfl, rfl, rfl, rfl, trivial⟩, HS⟩ ?_ ?_
    · rintro ⟨i635, k_636⟩ c' s' w637 ⟨hs_, HS⟩ h
      rw [has_put hs_]; clear hs_
      try dsimp only at HS
      replace h : F_spec_l17Node_b1 group s i635 k_636 = some c' := h
      unfold F_spec_l17Node_b1 at h
      refine ex_seq ?_
      refine ex_seq ?_
      refine ex_region ?_
      refine ro_lt (r_mv (v := iv k_636) rfl) rfl ?_
      refine ro_lt (r_mv (v := v_group) rfl) rfl ?_
      have b638 := (r_group.sub HS.sub).big
      refine ro_lt (r_len (n := 1) (r_group.sub HS.sub) sl25 rfl) rfl ?_
      refine ro_lt (r_lss rfl rfl) rfl ?_
      refine RO.nil (nx ?_)
      replace h := ite_some h; rcases h with ⟨c639, h⟩ | ⟨c639, h⟩
      rotate_left
      · refine ex_if_f rfl (decide_eq_false c639) ?_
        refine ex_exit (tq_exit ?_)
        obtain rfl := Option.some.inj h
        exact lq_out ⟨⟨rfl, rfl, rfl, rfl, rfl, trivial⟩, HS⟩
      refine ex_if_t rfl (decide_eq_true c639) ?_
      refine ex_skip (nx ?_)
      refine ex_seq ?_
      refine ex_block ?_
      refine ex_seq ?_
      refine ex_dr (Mm H5 []) (fun _ => True) [0, 1, 3, 7, 15, 31, 15, 15, 207, 463, 1023, 2047, 4095, 8191, 16383] [] (.op 0 (.op 1 (.op 2 (.op 3 (.op 4 (.op 5 (.op 6 (.op 7 (.op 8 (.op 9 (.op 10 (.op 11 (.op 12 (.op 13 (.op 14 .nil))))))))))))))) mix (by kernel_rfl) (by kernel_rfl) ?_
      intro w640 hw hb; have HS := HS.ext hb; clear hw hb
      refine RT.lt rfl rfl rfl rfl (fun w' k => r_mv (v := v_group) rfl) ?_
      refine RT.lt rfl rfl rfl rfl (fun w' k => r_len (n := 1) (r_group.sub HS.sub) sl25 rfl) ?_
      refine RT.lt rfl rfl rfl rfl (fun w' k => r_gtr rfl rfl) ?_
      refine RT.lt rfl rfl rfl rfl (fun w' k => r_mv (v := .bool ((decide ((group.length : Int) > 1)))) rfl) ?_
      replace h := ite_some h; rcases h with ⟨c641, h⟩ | ⟨c641, h⟩
      · refine RT.sk rfl rfl rfl (want_off rfl (sb (decide_eq_true c641)) rfl) ?_
        refine RT.sk rfl rfl rfl (want_off rfl (sb (decide_eq_true c641)) rfl) ?_
        refine RT.sk rfl rfl rfl (want_off rfl (sb (decide_eq_true c641)) rfl) ?_
        refine RT.sk rfl rfl rfl (want_off rfl (sb (decide_eq_true c641)) rfl) ?_
        refine RT.sk rfl rfl rfl (want_off rfl (sb (decide_eq_true c641)) rfl) ?_
        refine RT.sk rfl rfl rfl (want_off rfl (sb (decide_eq_true c641)) rfl) ?_
        refine RT.sk rfl rfl rfl (want_off rfl (sb (decide_eq_true c641)) rfl) ?_
        refine RT.sk rfl rfl rfl (want_off rfl (sb (decide_eq_true c641)) rfl) ?_
        refine RT.sk rfl rfl rfl (want_off rfl (sb (decide_eq_true c641)) rfl) ?_
        refine RT.sk rfl rfl rfl (want_off rfl (sb (decide_eq_true c641)) rfl) ?_
        refine RT.lt rfl rfl rfl rfl (fun w' k => r_pickt (v := .bool true) (decide_eq_true c641) rfl rfl) ?_
        refine RT.nil (nx ?_)
        refine ex_if_t rfl (rfl) ?_
        refine ex_region ?_
        refine ro_lt (r_fa (HS.boxAt 0 rfl) fd72_3 rfl) rfl ?_
        refine ro_hy (o_str (off := 3) (vs := [iv 1]) (l' := [v621, v623, iv y518.2.2.1, iv 1]) HS rfl rfl rfl st3 rfl rfl (pl rfl pl0) rfl) rfl ?_
        rintro _ w642 ⟨rfl, hk, HS⟩
        refine RO.nil (blk_nx (nx ?_))
        refine ex_region ?_
        refine ro_lt (r_mv (v := iv k_636) rfl) rfl ?_
        refine ro_lt (r_addw rfl rfl) rfl ?_
        refine ro_lt (r_as (v := iv (wi (k_636 + 1))) rfl) rfl ?_
        refine RO.nil ?_
        obtain rfl := Option.some.inj h
        exact lq_go ⟨⟨rfl, rfl, rfl, rfl, rfl, trivial⟩, HS⟩
      refine RT.lt rfl rfl rfl (want_on rfl (sb (decide_eq_false c641))) (fun w' k => r_fa (l4.sub HS.sub) fd27_0 rfl) ?_
      refine RT.lt rfl rfl rfl (want_on rfl (sb (decide_eq_false c641))) (fun w' k => r_ld ((l4.seg 0 1).kp HS.sub k.kp (mh rfl)) sc24 rfl) ?_
      refine RT.lt rfl rfl rfl (want_on rfl (sb (decide_eq_false c641))) (fun w' k => r_mv (v := v_group) rfl) ?_
      refine RT.lt rfl rfl rfl (want_on rfl (sb (decide_eq_false c641))) (fun w' k => r_mv (v := iv k_636) rfl) ?_
      replace h := grd_some h; obtain ⟨g644, h⟩ := h
      refine RT.lt rfl rfl rfl (want_on rfl (sb (decide_eq_false c641))) (fun w' k => r_ia (r_group.sub HS.sub) sl25 g644.1 g644.2 rfl rfl) ?_
      refine RT.lt rfl rfl rfl (want_on rfl (sb (decide_eq_false c641))) (fun w' k => r_ld ((r_group.int g644.1 g644.2).kp HS.sub k.kp (mh rfl)) sc3 rfl) ?_
      replace h := grd_some h; obtain ⟨g645, h⟩ := h
      obtain ⟨_, q646, l647⟩ := r_s0.idx g645.1 g645.2
      obtain ⟨v648, v650, rfl, r649, r651⟩ := rd_K72 q646
      refine RT.lt rfl rfl rfl (want_on rfl (sb (decide_eq_false c641))) (fun w' k => r_ia (r_s0.sub HS.sub) sl24 g645.1 g645.2 rfl rfl) ?_
      refine RT.lt rfl rfl rfl (want_on rfl (sb (decide_eq_false c641))) (fun w' k => r_fa (l647.sub HS.sub) fd72_3 rfl) ?_
      refine RT.lt rfl rfl rfl (want_on rfl (sb (decide_eq_false c641))) (fun w' k => r_ld ((l647.seg 3 1).kp HS.sub k.kp (mh rfl)) sc3 rfl) ?_
      refine RT.lt rfl rfl rfl (want_on rfl (sb (decide_eq_false c641))) (fun w' k => r_neq rfl rfl) ?_
      refine RT.lt rfl rfl rfl rfl (fun w' k => r_pickf (v := .bool ((!(decide ((((s.1.getD (group.getD k_636.toNat 0).toNat (([] : List Int), ([] : List Int), 0, 0)).2).2).2 = 0))))) (decide_eq_false c641) rfl rfl) ?_
      refine RT.nil (nx ?_)
      replace h := ite_some h; rcases h with ⟨c652, h⟩ | ⟨c652, h⟩
      · refine ex_if_f rfl (congrArg (!·) (decide_eq_true c652)) ?_
        refine ex_skip (blk_nx (nx ?_))
        refine ex_region ?_
        refine ro_lt (r_mv (v := iv k_636) rfl) rfl ?_
        refine ro_lt (r_addw rfl rfl) rfl ?_
        refine ro_lt (r_as (v := iv (wi (k_636 + 1))) rfl) rfl ?_
        refine RO.nil ?_
        obtain rfl := Option.some.inj h
        exact lq_go ⟨⟨rfl, rfl, rfl, rfl, rfl, trivial⟩, HS⟩
      refine ex_if_t rfl (congrArg (!·) (decide_eq_false c652)) ?_
      refine ex_region ?_
      refine ro_lt (r_fa (HS.boxAt 0 rfl) fd72_3 rfl) rfl ?_
      refine ro_hy (o_str (off := 3) (vs := [iv 1]) (l' := [v621, v623, iv y518.2.2.1, iv 1]) HS rfl rfl rfl st3 rfl rfl (pl rfl pl0) rfl) rfl ?_
      rintro _ w653 ⟨rfl, hk, HS⟩
      refine RO.nil (blk_nx (nx ?_))
      refine ex_region ?_
      refine ro_lt (r_mv (v := iv k_636) rfl) rfl ?_
      refine ro_lt (r_addw rfl rfl) rfl ?_
      refine ro_lt (r_as (v := iv (wi (k_636 + 1))) rfl) rfl ?_
      refine RO.nil ?_
      obtain rfl := Option.some.inj h
      exact lq_go ⟨⟨rfl, rfl, rfl, rfl, rfl, trivial⟩, HS⟩
    rintro s' w657 ⟨hs_, HS⟩
    rw [has_put hs_]; clear hs_
    refine (nx ?_)
    refine ex_seq ?_
    refine ex_region ?_
    refine ro_lt (r_lda (HS.boxAt 0 rfl) ag72 rfl rfl) rfl ?_
    refine ro_hy (o_str (off := 0) (vs := [v621, v623, iv y518.2.2.1, iv y655.1]) (l' := [v621, v623, iv y518.2.2.1, iv y655.1]) (HS.sel (G := [_, _, _, _]) [3] 0 rfl) rfl rfl rfl st72 rfl rfl (pl (HS.rd 1 rfl).pl (pl (HS.rd 2 rfl).pl (pl rfl (pl rfl pl0)))) rfl) rfl ?_
    rintro _ w659 ⟨rfl, hk, HS⟩
    refine RO.nil (nx ?_)
    obtain rfl := Option.some.inj h
    refine ex_ret ?_
    exact ret1 (.inr rfl) rfl (rv_box HS (i := 0) rfl rfl ag72 rfl) (P1.of (((((((HS.add (t := (.int .i64)) (x := y655.1) rfl rfl).add (t := (.int .i64)) (x := y518.2.2.1) rfl rfl).join).sel (G := [_, _, _, _, _]) [4] 0 rfl).join).sel (G := [_, _, _, _]) [3] 0 rfl).join) hs)
  refine RT.br rfl rfl rfl rfl (o_alloc HS (cs := [.slice none 0 0, .slice none 0 0, iv 0, iv 0]) ze72 rfl) (fun _ _ ⟨_, _, hb, _⟩ => km_below hb (fun _ => trivial)) ?_ ?_
  · rintro _ w667 ⟨g666, rfl, hb, HS⟩
    refine RT.hy rfl rfl rfl rfl rfl (o_c1 (vs := [.agg #[v14, v16, iv ((((s.1.getD (group.getD (0 : Int).toNat 0).toNat (([] : List Int), ([] : List Int), 0, 0)).2).2).1), iv ((((s.1.getD (group.getD (0 : Int).toNat 0).toNat (([] : List Int), ([] : List Int), 0, 0)).2).2).2)]]) HS (c_spec_l12CopyNode (r15.sub HS.sub) (r17.sub HS.sub) e519) cf109 rfl) (fun _ _ ⟨_, _, hb, _⟩ => km_below hb (fun _ => trivial)) ?_
    rintro _ w669 ⟨cs670, rfl, hb, HS⟩
    replace HS := st_K72 HS
    obtain ⟨v672, v674, rfl, HS⟩ := HS
    refine RT.hy rfl rfl rfl rfl rfl (o_str (off := 0) (vs := [v672, v674, iv y518.2.2.1, iv y518.2.2.2]) (l' := [v672, v674, iv y518.2.2.1, iv y518.2.2.2]) (HS.sel (G := [_, _, _, _]) [2] 0 rfl) rfl rfl rfl st72 rfl rfl (pl (HS.rd 0 rfl).pl (pl (HS.rd 1 rfl).pl (pl rfl (pl rfl pl0)))) rfl) (fun _ _ ⟨_, hk, HS2⟩ => km_st HS (Sub.refl _) (hk (fun b => b = g666) rfl) (fun b hb => hb ▸ bx_none (HS.sel (G := [_, _, _, _]) [2] 0 rfl)) (by kernel_rfl) (fun _ => trivial)) ?_
    rintro _ w675 ⟨rfl, hk, HS⟩
    refine RT.nil (nx ?_)
    refine ex_seq ?_
    refine ex_seq ?_
    refine ex_region ?_
    refine ro_lt (r_as (v := iv 0) rfl) rfl ?_
    refine RO.nil (nx ?_)
    replace h := bind_some h; obtain ⟨y699, e700, h⟩ := h
    refine ex_lbo (fun (st : Int × Int) s' w' => Has s' [(1, v_group), (2, .pointer (some ⟨g1, 0, none⟩)), (4, .pointer (some ⟨g6, 0, none⟩)), (5, .pointer (some ⟨g666, 0, none⟩)), (6, iv st.2)] ∧ St w H5 w' [.bx g666 72 [v672, v674, iv y518.2.2.1, iv st.1], .ow (.sl 3 (.int .i64)) y518.1 [v672], .ow (.sl 3 (.int .i64)) y518.2.1 [v674], .bx g6 72 [.slice none 0 0, .slice none 0 0, iv 0, iv 0]]) e700 ⟨⟨rfl, rfl, rfl, rfl, rfl, trivial⟩, HS⟩ ?_ ?_
    · rintro ⟨i679, k_680⟩ c' s' w681 ⟨hs_, HS⟩ h
      rw [has_put hs_]; clear hs_
      try dsimp only at HS
      replace h : F_spec_l17Node_b1 group s i679 k_680 = some c' := h
      unfold F_spec_l17Node_b1 at h
      refine ex_seq ?_
      refine ex_seq ?_
      refine ex_region ?_
      refine ro_lt (r_mv (v := iv k_680) rfl) rfl ?_
      refine ro_lt (r_mv (v := v_group) rfl) rfl ?_
      have b682 := (r_group.sub HS.sub).big
      refine ro_lt (r_len (n := 1) (r_group.sub HS.sub) sl25 rfl) rfl ?_
      refine ro_lt (r_lss rfl rfl) rfl ?_
      refine RO.nil (nx ?_)
      replace h := ite_some h; rcases h with ⟨c683, h⟩ | ⟨c683, h⟩
      rotate_left
      · refine ex_if_f rfl (decide_eq_false c683) ?_
        refine ex_exit (tq_exit ?_)
        obtain rfl := Option.some.inj h
        exact lq_out ⟨⟨rfl, rfl, rfl, rfl, rfl, trivial⟩, HS⟩
      refine ex_if_t rfl (decide_eq_true c683) ?_
      refine ex_skip (nx ?_)
      refine ex_seq ?_
      refine ex_block ?_
      refine ex_seq ?_
      refine ex_dr (Mm H5 []) (fun _ => True) [0, 1, 3, 7, 15, 31, 15, 15, 207, 463, 1023, 2047, 4095, 8191, 16383] [] (.op 0 (.op 1 (.op 2 (.op 3 (.op 4 (.op 5 (.op 6 (.op 7 (.op 8 (.op 9 (.op 10 (.op 11 (.op 12 (.op 13 (.op 14 .nil))))))))))))))) mix (by kernel_rfl) (by kernel_rfl) ?_
      intro w684 hw hb; have HS := HS.ext hb; clear hw hb
      refine RT.lt rfl rfl rfl rfl (fun w' k => r_mv (v := v_group) rfl) ?_
      refine RT.lt rfl rfl rfl rfl (fun w' k => r_len (n := 1) (r_group.sub HS.sub) sl25 rfl) ?_
      refine RT.lt rfl rfl rfl rfl (fun w' k => r_gtr rfl rfl) ?_
      refine RT.lt rfl rfl rfl rfl (fun w' k => r_mv (v := .bool ((decide ((group.length : Int) > 1)))) rfl) ?_
      replace h := ite_some h; rcases h with ⟨c685, h⟩ | ⟨c685, h⟩
      · refine RT.sk rfl rfl rfl (want_off rfl (sb (decide_eq_true c685)) rfl) ?_
        refine RT.sk rfl rfl rfl (want_off rfl (sb (decide_eq_true c685)) rfl) ?_
        refine RT.sk rfl rfl rfl (want_off rfl (sb (decide_eq_true c685)) rfl) ?_
        refine RT.sk rfl rfl rfl (want_off rfl (sb (decide_eq_true c685)) rfl) ?_
        refine RT.sk rfl rfl rfl (want_off rfl (sb (decide_eq_true c685)) rfl) ?_
        refine RT.sk rfl rfl rfl (want_off rfl (sb (decide_eq_true c685)) rfl) ?_
        refine RT.sk rfl rfl rfl (want_off rfl (sb (decide_eq_true c685)) rfl) ?_
        refine RT.sk rfl rfl rfl (want_off rfl (sb (decide_eq_true c685)) rfl) ?_
        refine RT.sk rfl rfl rfl (want_off rfl (sb (decide_eq_true c685)) rfl) ?_
        refine RT.sk rfl rfl rfl (want_off rfl (sb (decide_eq_true c685)) rfl) ?_
        refine RT.lt rfl rfl rfl rfl (fun w' k => r_pickt (v := .bool true) (decide_eq_true c685) rfl rfl) ?_
        refine RT.nil (nx ?_)
        refine ex_if_t rfl (rfl) ?_
        refine ex_region ?_
        refine ro_lt (r_fa (HS.boxAt 0 rfl) fd72_3 rfl) rfl ?_
        refine ro_hy (o_str (off := 3) (vs := [iv 1]) (l' := [v672, v674, iv y518.2.2.1, iv 1]) HS rfl rfl rfl st3 rfl rfl (pl rfl pl0) rfl) rfl ?_
        rintro _ w686 ⟨rfl, hk, HS⟩
        refine RO.nil (blk_nx (nx ?_))
        refine ex_region ?_
        refine ro_lt (r_mv (v := iv k_680) rfl) rfl ?_
        refine ro_lt (r_addw rfl rfl) rfl ?_
        refine ro_lt (r_as (v := iv (wi (k_680 + 1))) rfl) rfl ?_
        refine RO.nil ?_
        obtain rfl := Option.some.inj h
        exact lq_go ⟨⟨rfl, rfl, rfl, rfl, rfl, trivial⟩, HS⟩
      refine RT.lt rfl rfl rfl (want_on rfl (sb (decide_eq_false c685))) (fun w' k => r_fa (l4.sub HS.sub) fd27_0 rfl) ?_
      refine RT.lt rfl rfl rfl (want_on rfl (sb (decide_eq_false c685))) (fun w' k => r_ld ((l4.seg 0 1).kp HS.sub k.kp (mh rfl)) sc24 rfl) ?_
      refine RT.lt rfl rfl rfl (want_on rfl (sb (decide_eq_false c685))) (fun w' k => r_mv (v := v_group) rfl) ?_
      refine RT.lt rfl rfl rfl (want_on rfl (sb (decide_eq_false c685))) (fun w' k => r_mv (v := iv k_680) rfl) ?_
      replace h := grd_some h; obtain ⟨g688, h⟩ := h
      refine RT.lt rfl rfl rfl (want_on rfl (sb (decide_eq_false c685))) (fun w' k => r_ia (r_group.sub HS.sub) sl25 g688.1 g688.2 rfl rfl) ?_
      refine RT.lt rfl rfl rfl (want_on rfl (sb (decide_eq_false c685))) (fun w' k => r_ld ((r_group.int g688.1 g688.2).kp HS.sub k.kp (mh rfl)) sc3 rfl) ?_
      replace h := grd_some h; obtain ⟨g689, h⟩ := h
      obtain ⟨_, q690, l691⟩ := r_s0.idx g689.1 g689.2
      obtain ⟨v692, v694, rfl, r693, r695⟩ := rd_K72 q690
      refine RT.lt rfl rfl rfl (want_on rfl (sb (decide_eq_false c685))) (fun w' k => r_ia (r_s0.sub HS.sub) sl24 g689.1 g689.2 rfl rfl) ?_
      refine RT.lt rfl rfl rfl (want_on rfl (sb (decide_eq_false c685))) (fun w' k => r_fa (l691.sub HS.sub) fd72_3 rfl) ?_
      refine RT.lt rfl rfl rfl (want_on rfl (sb (decide_eq_false c685))) (fun w' k => r_ld ((l691.seg 3 1).kp HS.sub k.kp (mh rfl)) sc3 rfl) ?_
      refine RT.lt rfl rfl rfl (want_on rfl (sb (decide_eq_false c685))) (fun w' k => r_neq rfl rfl) ?_
      refine RT.lt rfl rfl rfl rfl (fun w' k => r_pickf (v := .bool ((!(decide ((((s.1.getD (group.getD k_680.toNat 0).toNat (([] : List Int), ([] : List Int), 0, 0)).2).2).2 = 0))))) (decide_eq_false c685) rfl rfl) ?_
      refine RT.nil (nx ?_)
      replace h := ite_some h; rcases h with ⟨c696, h⟩ | ⟨c696, h⟩
      · refine ex_if_f rfl (congrArg (!·) (decide_eq_true c696)) ?_
        refine ex_skip (blk_nx (nx ?_))
        refine ex_region ?_
        refine ro_lt (r_mv (v := iv k_680) rfl) rfl ?_
        refine ro_lt (r_addw rfl rfl) rfl ?_
        refine ro_lt (r_as (v := iv (wi (k_680 + 1))) rfl) rfl ?_
        refine RO.nil ?_
        obtain rfl := Option.some.inj h
        exact lq_go ⟨⟨rfl, rfl, rfl, rfl, rfl, trivial⟩, HS⟩
      refine ex_if_t rfl (congrArg (!·) (decide_eq_false c696)) ?_
      refine ex_region ?_
      refine ro_lt (r_fa (HS.boxAt 0 rfl) fd72_3 rfl) rfl ?_
      refine ro_hy (o_str (off := 3) (vs := [iv 1]) (l' := [v672, v674, iv y518.2.2.1, iv 1]) HS rfl rfl rfl st3 rfl rfl (pl rfl pl0) rfl) rfl ?_
      rintro _ w697 ⟨rfl, hk, HS⟩
      refine RO.nil (blk_nx (nx ?_))
      refine ex_region ?_
      refine ro_lt (r_mv (v := iv k_680) rfl) rfl ?_
      refine ro_lt (r_addw rfl rfl) rfl ?_
      refine ro_lt (r_as (v := iv (wi (k_680 + 1))) rfl) rfl ?_
      refine RO.nil ?_
      obtain rfl := Option.some.inj h
      exact lq_go ⟨⟨rfl, rfl, rfl, rfl, rfl, trivial⟩, HS⟩
    rintro s' w701 ⟨hs_, HS⟩
    rw [has_put hs_]; clear hs_
    refine (nx ?_)
    refine ex_seq ?_
    refine ex_region ?_
    refine ro_lt (r_lda (HS.boxAt 0 rfl) ag72 rfl rfl) rfl ?_
    refine ro_hy (o_str (off := 0) (vs := [v672, v674, iv y518.2.2.1, iv y699.1]) (l' := [v672, v674, iv y518.2.2.1, iv y699.1]) (HS.sel (G := [_, _, _, _]) [3] 0 rfl) rfl rfl rfl st72 rfl rfl (pl (HS.rd 1 rfl).pl (pl (HS.rd 2 rfl).pl (pl rfl (pl rfl pl0)))) rfl) rfl ?_
    rintro _ w703 ⟨rfl, hk, HS⟩
    refine RO.nil (nx ?_)
    obtain rfl := Option.some.inj h
    refine ex_ret ?_
    exact ret1 (.inr rfl) rfl (rv_box HS (i := 0) rfl rfl ag72 rfl) (P1.of (((((((HS.add (t := (.int .i64)) (x := y699.1) rfl rfl).add (t := (.int .i64)) (x := y518.2.2.1) rfl rfl).join).sel (G := [_, _, _, _, _]) [4] 0 rfl).join).sel (G := [_, _, _, _]) [3] 0 rfl).join) hs)
  exact RT.stop
theorem c_spec_NextOf {w : World} {s : (List (List Int × List Int × Int × Int)) × List Int} {v_s0 : Value} {v_s1 : Value} {i : Int} {j : Int} (r_s0 : Rd (.sl 72 (.prod (.sl 3 (.int .i64)) (.prod (.sl 3 (.int .i64)) (.prod (.int .i64) (.int .i64))))) (hp w) s.1 [v_s0]) (r_s1 : Rd (.sl 3 (.int .i64)) (hp w) s.2 [v_s1]) {r : Int} (h : F_spec_NextOf s i j = some r) : Calls Try.prog 57 [.agg #[v_s0, v_s1], iv i, iv j].toArray w (P1 (.int .i64) w r) := by
  unfold F_spec_NextOf at h
  have HS := St.init w
  have hs := Sub.refl (hp w)
  refine calls_ex (n := 41) Try.func57 rfl Try.ntmps57 (Nat.le_of_ble_eq_true rfl) ?_
  refine ex_seq ?_
  refine ex_region ?_
  refine ro_hy (o_boxz HS (cs := [v_s0, v_s1]) rfl rfl) rfl ?_
  rintro _ w2 ⟨g1, H5, rfl, q3, l4, hb, HS⟩
  replace r_s0 := r_s0.sub q3
  replace r_s1 := r_s1.sub q3
  replace hs := hs.trans q3
  refine ro_lt (r_as (v := iv 0) rfl) rfl ?_
  refine RO.nil (nx ?_)
  refine ex_seq ?_
  refine ex_region ?_
  refine ro_lt (r_fa (l4.sub HS.sub) fd27_0 rfl) rfl ?_
  refine ro_lt (r_ld ((l4.seg 0 1).sub HS.sub) sc24 rfl) rfl ?_
  have b6 := (r_s0.sub HS.sub).big
  refine ro_lt (r_len (n := 4) (r_s0.sub HS.sub) sl24 rfl) rfl ?_
  refine ro_lt (r_as (v := iv ((s.1.length : Int))) rfl) rfl ?_
  refine RO.nil (nx ?_)
  refine ex_seq ?_
  refine ex_seq ?_
  refine ex_region ?_
  refine ro_lt (r_mv (v := iv i) rfl) rfl ?_
  refine ro_lt (r_mv (v := iv ((s.1.length : Int))) rfl) rfl ?_
  refine ro_lt (r_sub rfl rfl (by omega)) rfl ?_
  replace h := bind_some h; obtain ⟨y7, e8, h⟩ := h
  refine ro_hy (o_cf (vs := [iv i, iv 0, iv ((s.1.length : Int) - 1)]) HS rfl (c_spec_l1In e8) cf64 rfl) rfl ?_
  rintro _ w9 ⟨rfl, hb, HS⟩
  refine ro_lt (r_not rfl) rfl ?_
  refine ro_lt (r_mv (v := .bool ((!y7))) rfl) rfl ?_
  replace h := ite_some h; rcases h with ⟨c10, h⟩ | ⟨c10, h⟩
  rotate_left
  · refine ro_off (sb (congrArg (!·) (bf c10))) rfl rfl ?_
    refine ro_off (sb (congrArg (!·) (bf c10))) rfl rfl ?_
    refine ro_off (sb (congrArg (!·) (bf c10))) rfl rfl ?_
    refine ro_off (sb (congrArg (!·) (bf c10))) rfl rfl ?_
    refine ro_off (sb (congrArg (!·) (bf c10))) rfl rfl ?_
    refine ro_lt (r_pickt (v := .bool true) (congrArg (!·) (bf c10)) rfl rfl) rfl ?_
    refine ro_lt (r_mv (v := .bool true) rfl) rfl ?_
    refine ro_off (sb (rfl)) rfl rfl ?_
    refine ro_off (sb (rfl)) rfl rfl ?_
    refine ro_off (sb (rfl)) rfl rfl ?_
    refine ro_off (sb (rfl)) rfl rfl ?_
    refine ro_off (sb (rfl)) rfl rfl ?_
    refine ro_off (sb (rfl)) rfl rfl ?_
    refine ro_off (sb (rfl)) rfl rfl ?_
    refine ro_lt (r_pickt (v := .bool true) (rfl) rfl rfl) rfl ?_
    refine RO.nil (nx ?_)
    refine ex_if_t rfl (rfl) ?_
    refine ex_seq ?_
    refine ex_region ?_
    refine ro_lt (r_as (v := iv 1) rfl) rfl ?_
    refine RO.nil (nx ?_)
    obtain rfl := Option.some.inj h
    refine ex_ret (tq_ret ?_)
    exact ret1 (.inr rfl) rfl rfl (P1.of_flat HS hs rfl)
  refine ro_on (sb (congrArg (!·) (c10))) ?_
  refine ro_lt (r_mv (v := iv j) rfl) rfl ?_
  refine ro_on (sb (congrArg (!·) (c10))) ?_
  refine ro_lt (r_mv (v := iv ((s.1.length : Int))) rfl) rfl ?_
  refine ro_on (sb (congrArg (!·) (c10))) ?_
  refine ro_lt (r_sub rfl rfl (by omega)) rfl ?_
  replace h := bind_some h; obtain ⟨y11, e12, h⟩ := h
  refine ro_on (sb (congrArg (!·) (c10))) ?_
  refine ro_hy (o_cf (vs := [iv j, iv 0, iv ((s.1.length : Int) - 1)]) HS rfl (c_spec_l1In e12) cf64 rfl) rfl ?_
  rintro _ w13 ⟨rfl, hb, HS⟩
  refine ro_on (sb (congrArg (!·) (c10))) ?_
  refine ro_lt (r_not rfl) rfl ?_
  refine ro_lt (r_pickf (v := .bool ((!y11))) (congrArg (!·) (c10)) rfl rfl) rfl ?_
  refine ro_lt (r_mv (v := .bool ((!y11))) rfl) rfl ?_
  replace h := ite_some h; rcases h with ⟨c14, h⟩ | ⟨c14, h⟩
  rotate_left
  · refine ro_off (sb (congrArg (!·) (bf c14))) rfl rfl ?_
    refine ro_off (sb (congrArg (!·) (bf c14))) rfl rfl ?_
    refine ro_off (sb (congrArg (!·) (bf c14))) rfl rfl ?_
    refine ro_off (sb (congrArg (!·) (bf c14))) rfl rfl ?_
    refine ro_off (sb (congrArg (!·) (bf c14))) rfl rfl ?_
    refine ro_off (sb (congrArg (!·) (bf c14))) rfl rfl ?_
    refine ro_off (sb (congrArg (!·) (bf c14))) rfl rfl ?_
    refine ro_lt (r_pickt (v := .bool true) (congrArg (!·) (bf c14)) rfl rfl) rfl ?_
    refine RO.nil (nx ?_)
    refine ex_if_t rfl (rfl) ?_
    refine ex_seq ?_
    refine ex_region ?_
    refine ro_lt (r_as (v := iv 1) rfl) rfl ?_
    refine RO.nil (nx ?_)
    obtain rfl := Option.some.inj h
    refine ex_ret (tq_ret ?_)
    exact ret1 (.inr rfl) rfl rfl (P1.of_flat HS hs rfl)
  refine ro_on (sb (congrArg (!·) (c14))) ?_
  refine ro_lt (r_fa (l4.sub HS.sub) fd27_1 rfl) rfl ?_
  refine ro_on (sb (congrArg (!·) (c14))) ?_
  refine ro_lt (r_ld ((l4.seg 1 1).sub HS.sub) sc25 rfl) rfl ?_
  have b15 := (r_s1.sub HS.sub).big
  refine ro_on (sb (congrArg (!·) (c14))) ?_
  refine ro_lt (r_len (n := 1) (r_s1.sub HS.sub) sl25 rfl) rfl ?_
  refine ro_on (sb (congrArg (!·) (c14))) ?_
  refine ro_lt (r_mv (v := iv ((s.1.length : Int))) rfl) rfl ?_
  refine ro_on (sb (congrArg (!·) (c14))) ?_
  refine ro_lt (r_mv (v := iv ((s.1.length : Int))) rfl) rfl ?_
  refine ro_on (sb (congrArg (!·) (c14))) ?_
  refine ro_lt (r_mulw rfl rfl) rfl ?_
  refine ro_on (sb (congrArg (!·) (c14))) ?_
  refine ro_lt (r_neq rfl rfl) rfl ?_
  refine ro_lt (r_pickf (v := .bool ((!(decide ((s.2.length : Int) = wi ((s.1.length : Int) * (s.1.length : Int))))))) (congrArg (!·) (c14)) rfl rfl) rfl ?_
  refine RO.nil (nx ?_)
  replace h := ite_some h; rcases h with ⟨c16, h⟩ | ⟨c16, h⟩
  rotate_left
  · refine ex_if_t rfl (congrArg (!·) (decide_eq_false c16)) ?_
    refine ex_seq ?_
    refine ex_region ?_
    refine ro_lt (r_as (v := iv 1) rfl) rfl ?_
    refine RO.nil (nx ?_)
    obtain rfl := Option.some.inj h
    refine ex_ret (tq_ret ?_)
    exact ret1 (.inr rfl) rfl rfl (P1.of_flat HS hs rfl)
  refine ex_if_f rfl (congrArg (!·) (decide_eq_true c16)) ?_
  refine ex_skip (nx ?_)
  refine ex_seq ?_
  refine ex_region ?_
  refine ro_lt (r_fa (l4.sub HS.sub) fd27_1 rfl) rfl ?_
  refine ro_lt (r_ld ((l4.seg 1 1).sub HS.sub) sc25 rfl) rfl ?_
  refine ro_lt (r_mv (v := iv i) rfl) rfl ?_
  refine ro_lt (r_mv (v := iv ((s.1.length : Int))) rfl) rfl ?_
  refine ro_lt (r_mulw rfl rfl) rfl ?_
  refine ro_lt (r_mv (v := iv j) rfl) rfl ?_
  refine ro_lt (r_addw rfl rfl) rfl ?_
  replace h := grd_some h; obtain ⟨g17, h⟩ := h
  refine ro_lt (r_ia (r_s1.sub HS.sub) sl25 g17.1 g17.2 rfl rfl) rfl ?_
  refine ro_lt (r_ld ((r_s1.int g17.1 g17.2).sub HS.sub) sc3 rfl) rfl ?_
  refine ro_lt (r_as (v := iv (s.2.getD (wi ((wi (i * (s.1.length : Int))) + j)).toNat 0)) rfl) rfl ?_
  refine RO.nil (nx ?_)
  obtain rfl := Option.some.inj h
  refine ex_ret ?_
  exact ret1 (.inr rfl) rfl rfl (P1.of_flat HS hs rfl)
theorem c_spec_JoinOf {w : World} {a : Int} {b : Int} {r : Int} (h : F_spec_JoinOf a b = some r) : Calls Try.prog 140 [iv a, iv b].toArray w (P1 (.int .i64) w r) := by
  unfold F_spec_JoinOf at h
  have HS := St.init w
  have hs := Sub.refl (hp w)
  refine calls_ex (n := 14) Try.func140 rfl Try.ntmps140 (Nat.le_of_ble_eq_true rfl) ?_
  refine ex_seq ?_
  refine ex_region ?_
  refine ro_lt (r_as (v := iv 0) rfl) rfl ?_
  refine RO.nil (nx ?_)
  refine ex_seq ?_
  refine ex_seq ?_
  refine ex_region ?_
  refine ro_lt (r_mv (v := iv a) rfl) rfl ?_
  refine ro_lt (r_mv (v := iv b) rfl) rfl ?_
  refine ro_lt (r_neq rfl rfl) rfl ?_
  refine ro_lt (r_mv (v := .bool ((!(decide (a = b))))) rfl) rfl ?_
  replace h := ite_some h; rcases h with ⟨c1, h⟩ | ⟨c1, h⟩
  rotate_left
  · refine ro_off (sb (congrArg (!·) (decide_eq_false c1))) rfl rfl ?_
    refine ro_off (sb (congrArg (!·) (decide_eq_false c1))) rfl rfl ?_
    refine ro_off (sb (congrArg (!·) (decide_eq_false c1))) rfl rfl ?_
    refine ro_lt (r_pickt (v := .bool true) (congrArg (!·) (decide_eq_false c1)) rfl rfl) rfl ?_
    refine RO.nil (nx ?_)
    refine ex_if_t rfl (rfl) ?_
    refine ex_seq ?_
    refine ex_region ?_
    refine ro_lt (r_as (v := iv 1) rfl) rfl ?_
    refine RO.nil (nx ?_)
    obtain rfl := Option.some.inj h
    refine ex_ret (tq_ret ?_)
    exact ret1 (.inr rfl) rfl rfl (P1.of_flat HS hs rfl)
  refine ro_on (sb (congrArg (!·) (decide_eq_true c1))) ?_
  refine ro_lt (r_mv (v := iv a) rfl) rfl ?_
  replace h := bind_some h; obtain ⟨y2, e3, h⟩ := h
  refine ro_on (sb (congrArg (!·) (decide_eq_true c1))) ?_
  refine ro_hy (o_cf (vs := [iv a]) HS rfl (c_spec_IsTruth e3) cf63 rfl) rfl ?_
  rintro _ w4 ⟨rfl, hb, HS⟩
  refine ro_on (sb (congrArg (!·) (decide_eq_true c1))) ?_
  refine ro_lt (r_not rfl) rfl ?_
  refine ro_lt (r_pickf (v := .bool ((!y2))) (congrArg (!·) (decide_eq_true c1)) rfl rfl) rfl ?_
  refine RO.nil (nx ?_)
  replace h := ite_some h; rcases h with ⟨c5, h⟩ | ⟨c5, h⟩
  rotate_left
  · refine ex_if_t rfl (congrArg (!·) (bf c5)) ?_
    refine ex_seq ?_
    refine ex_region ?_
    refine ro_lt (r_as (v := iv 1) rfl) rfl ?_
    refine RO.nil (nx ?_)
    obtain rfl := Option.some.inj h
    refine ex_ret (tq_ret ?_)
    exact ret1 (.inr rfl) rfl rfl (P1.of_flat HS hs rfl)
  refine ex_if_f rfl (congrArg (!·) (c5)) ?_
  refine ex_skip (nx ?_)
  refine ex_seq ?_
  refine ex_region ?_
  refine ro_lt (r_mv (v := iv a) rfl) rfl ?_
  refine ro_lt (r_as (v := iv a) rfl) rfl ?_
  refine RO.nil (nx ?_)
  obtain rfl := Option.some.inj h
  refine ex_ret ?_
  exact ret1 (.inr rfl) rfl rfl (P1.of_flat HS hs rfl)
theorem c_spec_l17Next {w : World} {s : (List (List Int × List Int × Int × Int)) × List Int} {v_s0 : Value} {v_s1 : Value} {a : List Int} {v_a : Value} {b : List Int} {v_b : Value} (r_s0 : Rd (.sl 72 (.prod (.sl 3 (.int .i64)) (.prod (.sl 3 (.int .i64)) (.prod (.int .i64) (.int .i64))))) (hp w) s.1 [v_s0]) (r_s1 : Rd (.sl 3 (.int .i64)) (hp w) s.2 [v_s1]) (r_a : Rd (.sl 3 (.int .i64)) (hp w) a [v_a]) (r_b : Rd (.sl 3 (.int .i64)) (hp w) b [v_b]) {r : Int} (h : F_spec_l17Next s a b = some r) : Calls Try.prog 89 [.agg #[v_s0, v_s1], v_a, v_b].toArray w (P1 (.int .i64) w r) := by
  unfold F_spec_l17Next at h
  have HS := St.init w
  have hs := Sub.refl (hp w)
  refine calls_ex (n := 43) Try.func89 rfl Try.ntmps89 (Nat.le_of_ble_eq_true rfl) ?_
  refine ex_seq ?_
  refine ex_region ?_
  refine ro_hy (o_boxz HS (cs := [v_s0, v_s1]) rfl rfl) rfl ?_
  rintro _ w2 ⟨g1, H5, rfl, q3, l4, hb, HS⟩
  replace r_s0 := r_s0.sub q3
  replace r_s1 := r_s1.sub q3
  replace r_a := r_a.sub q3
  replace r_b := r_b.sub q3
  replace hs := hs.trans q3
  refine ro_lt (r_as (v := iv 0) rfl) rfl ?_
  refine RO.nil (nx ?_)
  refine ex_seq ?_
  refine ex_dr (Mm H5 []) (fun _ => True) [0, 0, 2, 6, 0, 16, 48, 127, 255] [7] (.op 0 (.op 1 (.op 2 (.op 3 (.op 4 (.op 5 (.op 6 (.op 7 (.op 8 .nil))))))))) mix (by kernel_rfl) (by kernel_rfl) ?_
  intro w6 hw hb; have HS := HS.ext hb; clear hw hb
  refine RT.lt rfl rfl rfl rfl (fun w' k => r_lda (l4.kp HS.sub k.kp (mh rfl)) ag27 rfl rfl) ?_
  refine RT.lt rfl rfl rfl rfl (fun w' k => r_mv (v := v_a) rfl) ?_
  replace h := grd_some h; obtain ⟨g7, h⟩ := h
  refine RT.lt rfl rfl rfl rfl (fun w' k => r_ia (r_a.sub HS.sub) sl25 (by omega) g7 rfl rfl) ?_
  refine RT.lt rfl rfl rfl rfl (fun w' k => r_ld ((r_a.int (by omega) g7).kp HS.sub k.kp (mh rfl)) sc3 rfl) ?_
  refine RT.lt rfl rfl rfl rfl (fun w' k => r_mv (v := v_b) rfl) ?_
  replace h := grd_some h; obtain ⟨g8, h⟩ := h
  refine RT.lt rfl rfl rfl rfl (fun w' k => r_ia (r_b.sub HS.sub) sl25 (by omega) g8 rfl rfl) ?_
  refine RT.lt rfl rfl rfl rfl (fun w' k => r_ld ((r_b.int (by omega) g8).kp HS.sub k.kp (mh rfl)) sc3 rfl) ?_
  replace h := bind_some h; obtain ⟨y9, e10, h⟩ := h
  refine RT.hy rfl rfl rfl rfl rfl (o_cf (vs := [.agg #[v_s0, v_s1], iv (a.getD (0 : Int).toNat 0), iv (b.getD (0 : Int).toNat 0)]) HS rfl (c_spec_NextOf (r_s0.sub HS.sub) (r_s1.sub HS.sub) e10) cf57 rfl) (fun _ _ ⟨_, hb, _⟩ => km_below hb (fun _ => trivial)) ?_
  rintro _ w11 ⟨rfl, hb, HS⟩
  refine RT.lt rfl rfl rfl rfl (fun w' k => r_as (v := iv y9) rfl) ?_
  refine RT.nil (nx ?_)
  refine ex_seq ?_
  refine ex_seq ?_
  refine ex_region ?_
  refine ro_lt (r_as (v := iv 0) rfl) rfl ?_
  refine RO.nil (nx ?_)
  replace h := bind_some h; obtain ⟨y43, e44, h⟩ := h
  refine ex_lbo (fun (st : Int × Int) s' w' => Has s' [(1, v_a), (2, v_b), (3, .pointer (some ⟨g1, 0, none⟩)), (6, iv 0), (7, iv st.1), (8, iv st.2)] ∧ St w H5 w' []) e44 ⟨⟨rfl, rfl, rfl, rfl, rfl, rfl, trivial⟩, HS⟩ ?_ ?_
  · rintro ⟨out_18, i_19⟩ c' s' w20 ⟨hs_, HS⟩ h
    rw [has_put hs_]; clear hs_
    try dsimp only at HS
    replace h : F_spec_l17Next_b2 a b s out_18 i_19 = some c' := h
    unfold F_spec_l17Next_b2 at h
    refine ex_seq ?_
    refine ex_seq ?_
    refine ex_region ?_
    refine ro_lt (r_mv (v := iv i_19) rfl) rfl ?_
    refine ro_lt (r_mv (v := v_a) rfl) rfl ?_
    have b21 := (r_a.sub HS.sub).big
    refine ro_lt (r_len (n := 1) (r_a.sub HS.sub) sl25 rfl) rfl ?_
    refine ro_lt (r_lss rfl rfl) rfl ?_
    refine RO.nil (nx ?_)
    replace h := ite_some h; rcases h with ⟨c22, h⟩ | ⟨c22, h⟩
    rotate_left
    · refine ex_if_f rfl (decide_eq_false c22) ?_
      refine ex_exit (tq_exit ?_)
      obtain rfl := Option.some.inj h
      exact lq_out ⟨⟨rfl, rfl, rfl, rfl, rfl, rfl, trivial⟩, HS⟩
    refine ex_if_t rfl (decide_eq_true c22) ?_
    refine ex_skip (nx ?_)
    refine ex_seq ?_
    refine ex_block ?_
    refine ex_seq ?_
    refine ex_region ?_
    refine ro_lt (r_as (v := iv 0) rfl) rfl ?_
    refine RO.nil (nx ?_)
    replace h := bind_some h; obtain ⟨y39, e40, h⟩ := h
    refine ex_lbo (fun (st : Int × Int) s' w' => Has s' [(1, v_a), (2, v_b), (3, .pointer (some ⟨g1, 0, none⟩)), (6, iv 0), (7, iv st.1), (8, iv i_19), (9, iv st.2)] ∧ St w H5 w' []) e40 ⟨⟨rfl, rfl, rfl, rfl, rfl, rfl, rfl, trivial⟩, HS⟩ ?_ ?_
    · rintro ⟨out_25, j_26⟩ c' s' w27 ⟨hs_, HS⟩ h
      rw [has_put hs_]; clear hs_
      try dsimp only at HS
      replace h : F_spec_l17Next_b1 b i_19 a s out_25 j_26 = some c' := h
      unfold F_spec_l17Next_b1 at h
      refine ex_seq ?_
      refine ex_seq ?_
      refine ex_region ?_
      refine ro_lt (r_mv (v := iv j_26) rfl) rfl ?_
      refine ro_lt (r_mv (v := v_b) rfl) rfl ?_
      have b28 := (r_b.sub HS.sub).big
      refine ro_lt (r_len (n := 1) (r_b.sub HS.sub) sl25 rfl) rfl ?_
      refine ro_lt (r_lss rfl rfl) rfl ?_
      refine RO.nil (nx ?_)
      replace h := ite_some h; rcases h with ⟨c29, h⟩ | ⟨c29, h⟩
      rotate_left
      · refine ex_if_f rfl (decide_eq_false c29) ?_
        refine ex_exit (tq_exit ?_)
        obtain rfl := Option.some.inj h
        exact lq_out ⟨⟨rfl, rfl, rfl, rfl, rfl, rfl, rfl, trivial⟩, HS⟩
      refine ex_if_t rfl (decide_eq_true c29) ?_
      refine ex_skip (nx ?_)
      refine ex_seq ?_
      refine ex_block ?_
      refine ex_dr (Mm H5 []) (fun _ => True) [0, 0, 0, 0, 12, 28, 0, 0, 192, 448, 1022, 2047, 4095] [10, 11] (.op 0 (.op 1 (.op 2 (.op 3 (.op 4 (.op 5 (.op 6 (.op 7 (.op 8 (.op 9 (.op 10 (.op 11 (.op 12 .nil))))))))))))) mix (by kernel_rfl) (by kernel_rfl) ?_
      intro w30 hw hb; have HS := HS.ext hb; clear hw hb
      refine RT.lt rfl rfl rfl rfl (fun w' k => r_mv (v := iv out_25) rfl) ?_
      refine RT.lt rfl rfl rfl rfl (fun w' k => r_lda (l4.kp HS.sub k.kp (mh rfl)) ag27 rfl rfl) ?_
      refine RT.lt rfl rfl rfl rfl (fun w' k => r_mv (v := v_a) rfl) ?_
      refine RT.lt rfl rfl rfl rfl (fun w' k => r_mv (v := iv i_19) rfl) ?_
      replace h := grd_some h; obtain ⟨g31, h⟩ := h
      refine RT.lt rfl rfl rfl rfl (fun w' k => r_ia (r_a.sub HS.sub) sl25 g31.1 g31.2 rfl rfl) ?_
      refine RT.lt rfl rfl rfl rfl (fun w' k => r_ld ((r_a.int g31.1 g31.2).kp HS.sub k.kp (mh rfl)) sc3 rfl) ?_
      refine RT.lt rfl rfl rfl rfl (fun w' k => r_mv (v := v_b) rfl) ?_
      refine RT.lt rfl rfl rfl rfl (fun w' k => r_mv (v := iv j_26) rfl) ?_
      replace h := grd_some h; obtain ⟨g32, h⟩ := h
      refine RT.lt rfl rfl rfl rfl (fun w' k => r_ia (r_b.sub HS.sub) sl25 g32.1 g32.2 rfl rfl) ?_
      refine RT.lt rfl rfl rfl rfl (fun w' k => r_ld ((r_b.int g32.1 g32.2).kp HS.sub k.kp (mh rfl)) sc3 rfl) ?_
      replace h := bind_some h; obtain ⟨y33, e34, h⟩ := h
      refine RT.hy rfl rfl rfl rfl rfl (o_cf (vs := [.agg #[v_s0, v_s1], iv (a.getD i_19.toNat 0), iv (b.getD j_26.toNat 0)]) HS rfl (c_spec_NextOf (r_s0.sub HS.sub) (r_s1.sub HS.sub) e34) cf57 rfl) (fun _ _ ⟨_, hb, _⟩ => km_below hb (fun _ => trivial)) ?_
      rintro _ w35 ⟨rfl, hb, HS⟩
      replace h := bind_some h; obtain ⟨y36, e37, h⟩ := h
      refine RT.hy rfl rfl rfl rfl rfl (o_cf (vs := [iv out_25, iv y33]) HS rfl (c_spec_JoinOf e37) cf140 rfl) (fun _ _ ⟨_, hb, _⟩ => km_below hb (fun _ => trivial)) ?_
      rintro _ w38 ⟨rfl, hb, HS⟩
      refine RT.lt rfl rfl rfl rfl (fun w' k => r_as (v := iv y36) rfl) ?_
      refine RT.nil (blk_nx (nx ?_))
      refine ex_region ?_
      refine ro_lt (r_mv (v := iv j_26) rfl) rfl ?_
      refine ro_lt (r_addw rfl rfl) rfl ?_
      refine ro_lt (r_as (v := iv (wi (j_26 + 1))) rfl) rfl ?_
      refine RO.nil ?_
      obtain rfl := Option.some.inj h
      exact lq_go ⟨⟨rfl, rfl, rfl, rfl, rfl, rfl, rfl, trivial⟩, HS⟩
    rintro s' w41 ⟨hs_, HS⟩
    rw [has_put hs_]; clear hs_
    refine (blk_nx (nx ?_))
    refine ex_region ?_
    refine ro_lt (r_mv (v := iv i_19) rfl) rfl ?_
    refine ro_lt (r_addw rfl rfl) rfl ?_
    refine ro_lt (r_as (v := iv (wi (i_19 + 1))) rfl) rfl ?_
    refine RO.nil ?_
    obtain rfl := Option.some.inj h
    exact lq_go ⟨⟨rfl, rfl, rfl, rfl, rfl, rfl, trivial⟩, HS⟩
  rintro s' w45 ⟨hs_, HS⟩
  rw [has_put hs_]; clear hs_
  refine (nx ?_)
  refine ex_seq ?_
  refine ex_region ?_
  refine ro_lt (r_mv (v := iv y43.1) rfl) rfl ?_
  refine ro_lt (r_as (v := iv y43.1) rfl) rfl ?_
  refine RO.nil (nx ?_)
  obtain rfl := Option.some.inj h
  refine ex_ret ?_
  exact ret1 (.inr rfl) rfl rfl (P1.of_flat HS hs rfl)
theorem c_spec_Blur {w : World} {s : (List (List Int × List Int × Int × Int)) × List Int} {v_s0 : Value} {v_s1 : Value} (r_s0 : Rd (.sl 72 (.prod (.sl 3 (.int .i64)) (.prod (.sl 3 (.int .i64)) (.prod (.int .i64) (.int .i64))))) (hp w) s.1 [v_s0]) (r_s1 : Rd (.sl 3 (.int .i64)) (hp w) s.2 [v_s1]) {r : ((List (List Int × List Int × Int × Int)) × List Int)} (h : F_spec_Blur s = some r) : Calls Try.prog 33 [.agg #[v_s0, v_s1]].toArray w (P1 (.prod (.sl 72 (.prod (.sl 3 (.int .i64)) (.prod (.sl 3 (.int .i64)) (.prod (.int .i64) (.int .i64))))) (.sl 3 (.int .i64))) w r) := by
  unfold F_spec_Blur at h
  have HS := St.init w
  have hs := Sub.refl (hp w)
  refine calls_ex (n := 61) Try.func33 rfl Try.ntmps33 (Nat.le_of_ble_eq_true rfl) ?_
  refine ex_seq ?_
  refine ex_region ?_
  refine ro_hy (o_boxz HS (cs := [v_s0, v_s1]) rfl rfl) rfl ?_
  rintro _ w2 ⟨g1, H5, rfl, q3, l4, hb, HS⟩
  replace r_s0 := r_s0.sub q3
  replace r_s1 := r_s1.sub q3
  replace hs := hs.trans q3
  refine ro_hy (o_alloc HS (cs := [.slice none 0 0, .slice none 0 0]) ze27 rfl) rfl ?_
  rintro _ w7 ⟨g6, rfl, hb, HS⟩
  refine RO.nil (nx ?_)
  refine ex_seq ?_
  refine ex_seq ?_
  refine ex_region ?_
  refine ro_lt (r_fa (l4.sub HS.sub) fd27_0 rfl) rfl ?_
  refine ro_lt (r_ld ((l4.seg 0 1).sub HS.sub) sc24 rfl) rfl ?_
  have b9 := (r_s0.sub HS.sub).big
  refine ro_lt (r_len (n := 4) (r_s0.sub HS.sub) sl24 rfl) rfl ?_
  refine ro_lt (r_eql rfl rfl) rfl ?_
  refine RO.nil (nx ?_)
  replace h := ite_some h; rcases h with ⟨c10, h⟩ | ⟨c10, h⟩
  · refine ex_if_t rfl (decide_eq_true c10) ?_
    refine ex_seq ?_
    refine ex_region ?_
    refine ro_lt (r_bld (cells := [.slice none 0 0, .slice none 0 0]) bz27 rfl vp0 rfl) rfl ?_
    refine ro_hy (o_str (off := 0) (vs := [.slice none 0 0, .slice none 0 0]) (l' := [.slice none 0 0, .slice none 0 0]) HS rfl rfl rfl st27 rfl rfl (pl rfl (pl rfl pl0)) rfl) rfl ?_
    rintro _ w11 ⟨rfl, hk, HS⟩
    refine RO.nil (nx ?_)
    obtain rfl := Option.some.inj h
    refine ex_ret (tq_ret ?_)
    exact ret1 (.inr rfl) rfl (rv_box HS (i := 0) rfl rfl ag27 rfl) (P1.of (((HS.nil 3 (.int .i64)).nil 72 (.prod (.sl 3 (.int .i64)) (.prod (.sl 3 (.int .i64)) (.prod (.int .i64) (.int .i64))))).join) hs)
  refine ex_if_f rfl (decide_eq_false c10) ?_
  refine ex_skip (nx ?_)
  refine ex_seq ?_
  refine ex_seq ?_
  refine ex_dr (Mm H5 []) (fun _ => True) [0, 1, 0, 7, 15] [1, 3] (.op 0 (.op 2 (.op 1 (.op 3 (.op 4 .nil))))) mix (by kernel_rfl) (by kernel_rfl) ?_
  intro w16 hw hb; have HS := HS.ext hb; clear hw hb
  refine RT.lt rfl rfl rfl rfl (fun w' k => r_lda (l4.kp HS.sub k.kp (mh rfl)) ag27 rfl rfl) ?_
  refine RT.lt rfl rfl rfl rfl (fun w' k => r_lda (l4.kp HS.sub k.kp (mh rfl)) ag27 rfl rfl) ?_
  replace h := bind_some h; obtain ⟨y17, e18, h⟩ := h
  refine RT.hy rfl rfl rfl rfl rfl (o_cf (vs := [.agg #[v_s0, v_s1]]) HS rfl (c_spec_l15Vars (r_s0.sub HS.sub) (r_s1.sub HS.sub) e18) cf54 rfl) (fun _ _ ⟨_, hb, _⟩ => km_below hb (fun _ => trivial)) ?_
  rintro _ w19 ⟨rfl, hb, HS⟩
  replace h := bind_some h; obtain ⟨y20, e21, h⟩ := h
  refine RT.hy rfl rfl rfl rfl rfl (o_cf (vs := [iv y17, .agg #[v_s0, v_s1]]) HS rfl (c_spec_IsStructure (r_s0.sub HS.sub) (r_s1.sub HS.sub) e21) cf17 rfl) (fun _ _ ⟨_, hb, _⟩ => km_below hb (fun _ => trivial)) ?_
  rintro _ w22 ⟨rfl, hb, HS⟩
  refine RT.lt rfl rfl rfl rfl (fun w' k => r_not rfl) ?_
  refine RT.nil (nx ?_)
  replace h := ite_some h; rcases h with ⟨c23, h⟩ | ⟨c23, h⟩
  rotate_left
  · refine ex_if_t rfl (congrArg (!·) (bf c23)) ?_
    refine ex_seq ?_
    refine ex_region ?_
    refine ro_lt (r_lda (l4.sub HS.sub) ag27 rfl rfl) rfl ?_
    replace h := bind_some h; obtain ⟨y126, e127, h⟩ := h
    refine ro_hy (o_c1 (vs := [.agg #[v_s0, v_s1]]) HS (c_spec_l12Copy (r_s0.sub HS.sub) (r_s1.sub HS.sub) e127) cf55 rfl) rfl ?_
    rintro _ w128 ⟨cs129, rfl, hb, HS⟩
    replace HS := st_K27 HS
    obtain ⟨v131, v133, rfl, HS⟩ := HS
    refine ro_hy (o_str (off := 0) (vs := [v131, v133]) (l' := [v131, v133]) (HS.sel (G := [_, _, _]) [2] 0 rfl) rfl rfl rfl st27 rfl rfl (pl (HS.rd 0 rfl).pl (pl (HS.rd 1 rfl).pl pl0)) rfl) rfl ?_
    rintro _ w134 ⟨rfl, hk, HS⟩
    refine RO.nil (nx ?_)
    obtain rfl := Option.some.inj h
    refine ex_ret (tq_ret ?_)
    exact ret1 (.inr rfl) rfl (rv_box HS (i := 0) rfl rfl ag27 rfl) (P1.of (((HS.sel (G := [_, _, _]) [2] 0 rfl).sel (G := [_, _, _]) [2] 0 rfl).join) hs)
  refine ex_if_f rfl (congrArg (!·) (c23)) ?_
  refine ex_skip (nx ?_)
  refine ex_seq ?_
  refine ex_region ?_
  refine ro_lt (r_lda (l4.sub HS.sub) ag27 rfl rfl) rfl ?_
  replace h := bind_some h; obtain ⟨y24, e25, h⟩ := h
  refine ro_hy (o_c1 (vs := [.agg #[v_s0, v_s1]]) HS (c_spec_l17Groups (r_s0.sub HS.sub) (r_s1.sub HS.sub) e25) cf87 rfl) rfl ?_
  rintro _ w26 ⟨cs27, rfl, hb, HS⟩
  obtain ⟨v29, rfl, -⟩ := (HS.rd 0 rfl).one
  refine ro_lt (r_as (v := v29) rfl) rfl ?_
  refine RO.nil (nx ?_)
  refine ex_seq ?_
  refine ex_region ?_
  refine ro_lt (r_bld (cells := [.slice none 0 0, .slice none 0 0]) bz27 rfl vp0 rfl) rfl ?_
  refine ro_hy (o_alloc HS (cs := [.slice none 0 0, .slice none 0 0]) ze27 rfl) rfl ?_
  rintro _ w31 ⟨g30, rfl, hb, HS⟩
  refine ro_hy (o_str (off := 0) (vs := [.slice none 0 0, .slice none 0 0]) (l' := [.slice none 0 0, .slice none 0 0]) HS rfl rfl rfl st27 rfl rfl (pl rfl (pl rfl pl0)) rfl) rfl ?_
  rintro _ w33 ⟨rfl, hk, HS⟩
  refine RO.nil (nx ?_)
  refine ex_seq ?_
  refine ex_seq ?_
  refine ex_region ?_
  refine ro_lt (r_as (v := iv 0) rfl) rfl ?_
  refine RO.nil (nx ?_)
  replace h := bind_some h; obtain ⟨y117, e118, h⟩ := h
  refine ex_lbo (fun (st : (List (List Int × List Int × Int × Int)) × (List Int) × Int) s' w' => ∃ v48 : Value, ∃ v51 : Value, Has s' [(1, .pointer (some ⟨g1, 0, none⟩)), (2, .pointer (some ⟨g6, 0, none⟩)), (3, v29), (4, .pointer (some ⟨g30, 0, none⟩)), (5, iv st.2.2)] ∧ St w H5 w' [.ow (.sl 3 (.int .i64)) st.2.1 [v51], .ow (.sl 72 (.prod (.sl 3 (.int .i64)) (.prod (.sl 3 (.int .i64)) (.prod (.int .i64) (.int .i64))))) st.1 [v48], .bx g30 27 [v48, v51], .ow (.sl 25 (.sl 3 (.int .i64))) y24 [v29], .bx g6 27 [.slice none 0 0, .slice none 0 0]]) e118 ⟨.slice none 0 0, .slice none 0 0, ⟨rfl, rfl, rfl, rfl, rfl, trivial⟩, (((HS.nil 3 (.int .i64)).nil 72 (.prod (.sl 3 (.int .i64)) (.prod (.sl 3 (.int .i64)) (.prod (.int .i64) (.int .i64))))).sel (G := [_, _, _, _, _]) [1, 0, 0, 0, 0] 0 rfl)⟩ ?_ ?_
  · rintro ⟨i46, i49, i_52⟩ c' s' w53 ⟨v48, v51, hs_, HS⟩ h
    rw [has_put hs_]; clear hs_
    try dsimp only at HS
    replace h : F_spec_Blur_b2 y24 s i46 i49 i_52 = some c' := h
    unfold F_spec_Blur_b2 at h
    refine ex_seq ?_
    refine ex_seq ?_
    refine ex_region ?_
    refine ro_lt (r_mv (v := iv i_52) rfl) rfl ?_
    refine ro_lt (r_mv (v := v29) rfl) rfl ?_
    have b54 := (HS.rd 3 rfl).big
    refine ro_lt (r_len (n := 1) (HS.rd 3 rfl) sl97 rfl) rfl ?_
    refine ro_lt (r_lss rfl rfl) rfl ?_
    refine RO.nil (nx ?_)
    replace h := ite_some h; rcases h with ⟨c55, h⟩ | ⟨c55, h⟩
    rotate_left
    · refine ex_if_f rfl (decide_eq_false c55) ?_
      refine ex_exit (tq_exit ?_)
      obtain rfl := Option.some.inj h
      exact lq_out ⟨v48, v51, ⟨rfl, rfl, rfl, rfl, rfl, trivial⟩, HS⟩
    refine ex_if_t rfl (decide_eq_true c55) ?_
    refine ex_skip (nx ?_)
    refine ex_seq ?_
    refine ex_block ?_
    refine ex_seq ?_
    refine ex_dr (Mm H5 [1, 6]) (fun _ => True) [0, 1, 0, 0, 0, 24, 56, 124, 252, 511, 1023, 2047] [7, 8, 9, 11] (.op 0 (.op 1 (.op 2 (.op 3 (.op 4 (.op 5 (.op 6 (.op 7 (.op 8 (.op 9 (.op 10 (.op 11 .nil)))))))))))) mix (by kernel_rfl) (by kernel_rfl) ?_
    intro w56 hw hb; have HS := HS.ext hb; clear hw hb
    refine RT.lt rfl rfl rfl rfl (fun w' k => r_fa (HS.boxAt 2 rfl) fd27_0 rfl) ?_
    refine RT.lt rfl rfl rfl rfl (fun w' k => r_ld (((HS.boxAt 2 rfl).seg 0 1).k0 (Sub.refl _) (k.kp.none rfl)) sc24 rfl) ?_
    refine RT.lt rfl rfl rfl rfl (fun w' k => r_lda (l4.kp HS.sub k.kp (mh rfl)) ag27 rfl rfl) ?_
    refine RT.lt rfl rfl rfl rfl (fun w' k => r_mv (v := v29) rfl) ?_
    refine RT.lt rfl rfl rfl rfl (fun w' k => r_mv (v := iv i_52) rfl) ?_
    replace h := grd_some h; obtain ⟨g57, h⟩ := h
    obtain ⟨v58, r59, l60⟩ := (HS.rd 3 rfl).slE g57.1 g57.2
    refine RT.lt rfl rfl rfl rfl (fun w' k => r_ia (HS.rd 3 rfl) sl97 g57.1 g57.2 rfl rfl) ?_
    refine RT.lt rfl rfl rfl rfl (fun w' k => r_ld (l60.k0 (Sub.refl _) (k.kp.none rfl)) sc25 rfl) ?_
    replace h := bind_some h; obtain ⟨y61, e62, h⟩ := h
    refine RT.hy rfl rfl rfl rfl rfl (o_c1 (vs := [.agg #[v_s0, v_s1], v58]) HS (c_spec_l17Node (r_s0.sub HS.sub) (r_s1.sub HS.sub) r59 e62) cf88 rfl) (fun _ _ ⟨_, _, hb, _⟩ => km_below hb (fun _ => trivial)) ?_
    rintro _ w63 ⟨cs64, rfl, hb, HS⟩
    replace r59 := r59.sub (Below.sub' hb)
    replace l60 := l60.sub (Below.sub' hb)
    replace HS := st_K72 HS
    obtain ⟨v66, v68, rfl, HS⟩ := HS
    refine RT.hy rfl rfl rfl rfl rfl (o_bsv HS (cs := [v66, v68, iv y61.2.2.1, iv y61.2.2.2]) sl24 zz72 (vs := [.agg #[v66, v68, iv y61.2.2.1, iv y61.2.2.2]]) rfl rfl (vc rfl vc0) rfl rfl (by decide)) (fun _ _ ⟨_, _, hb, _⟩ => km_below hb (fun _ => trivial)) ?_
    rintro _ w70 ⟨g69, rfl, hb, HS⟩
    replace r59 := r59.sub (Below.sub' hb)
    replace l60 := l60.sub (Below.sub' hb)
    replace h := grd_some h; obtain ⟨g72, h⟩ := h
    refine RT.hy rfl rfl rfl rfl rfl (o_app1 ((((((((HS.add (t := (.int .i64)) (x := y61.2.2.2) rfl rfl).add (t := (.int .i64)) (x := y61.2.2.1) rfl rfl).join).sel (G := [_, _, _, _, _, _, _, _, _]) [3] 0 rfl).join).sel (G := [_, _, _, _, _, _, _, _]) [2] 0 rfl).join).sel (G := [_, _, _, _, _, _, _]) [3] 0 rfl) rfl rfl sl24 zz72 g72) (fun _ _ ⟨HS2, hk⟩ => km_st HS (Sub.refl _) (hk _ fun _ h => h) (own_none ((((((((HS.add (t := (.int .i64)) (x := y61.2.2.2) rfl rfl).add (t := (.int .i64)) (x := y61.2.2.1) rfl rfl).join).sel (G := [_, _, _, _, _, _, _, _, _]) [3] 0 rfl).join).sel (G := [_, _, _, _, _, _, _, _]) [2] 0 rfl).join).sel (G := [_, _, _, _, _, _, _]) [3] 0 rfl)) (by kernel_rfl) (fun _ => trivial)) ?_
    rintro v79 w80 ⟨HS, hk⟩
    refine RT.lt rfl rfl rfl rfl (fun w' k => r_fa (HS.boxAt 2 rfl) fd27_0 rfl) ?_
    refine RT.hy rfl rfl rfl rfl rfl (o_str (off := 0) (vs := [v79]) (l' := [v79, v51]) (HS.sel (G := [_, _, _, _, _]) [2] 0 rfl) rfl rfl (HS.rd 0 rfl).vc st24 rfl rfl (pl (HS.rd 0 rfl).pl pl0) rfl) (fun _ _ ⟨_, hk, HS2⟩ => km_st HS (Sub.refl _) (hk (fun b => b = g30) rfl) (fun b hb => hb ▸ bx_none (HS.sel (G := [_, _, _, _, _]) [2] 0 rfl)) (by kernel_rfl) (fun _ => trivial)) ?_
    rintro _ w82 ⟨rfl, hk, HS⟩
    refine RT.nil (nx ?_)
    refine ex_seq ?_
    refine ex_region ?_
    refine ro_lt (r_as (v := iv 0) rfl) rfl ?_
    refine RO.nil (nx ?_)
    replace h := bind_some h; obtain ⟨y113, e114, h⟩ := h
    refine ex_lbo (fun (st : (List Int) × Int) s' w' => ∃ v88 : Value, Has s' [(1, .pointer (some ⟨g1, 0, none⟩)), (2, .pointer (some ⟨g6, 0, none⟩)), (3, v29), (4, .pointer (some ⟨g30, 0, none⟩)), (5, iv i_52), (6, iv st.2)] ∧ St w H5 w' [.bx g30 27 [v79, v88], .ow (.sl 72 (.prod (.sl 3 (.int .i64)) (.prod (.sl 3 (.int .i64)) (.prod (.int .i64) (.int .i64))))) (i46 ++ [(y61.1, y61.2.1, y61.2.2.1, y61.2.2.2)]) [v79], .ow (.sl 3 (.int .i64)) st.1 [v88], .ow (.sl 25 (.sl 3 (.int .i64))) y24 [v29], .bx g6 27 [.slice none 0 0, .slice none 0 0]]) e114 ⟨v51, ⟨rfl, rfl, rfl, rfl, rfl, rfl, trivial⟩, HS⟩ ?_ ?_
    · rintro ⟨i86, j_89⟩ c' s' w90 ⟨v88, hs_, HS⟩ h
      rw [has_put hs_]; clear hs_
      try dsimp only at HS
      replace h : F_spec_Blur_b1 y24 s i_52 i86 j_89 = some c' := h
      unfold F_spec_Blur_b1 at h
      refine ex_seq ?_
      refine ex_seq ?_
      refine ex_region ?_
      refine ro_lt (r_mv (v := iv j_89) rfl) rfl ?_
      refine ro_lt (r_mv (v := v29) rfl) rfl ?_
      refine ro_lt (r_len (n := 1) (HS.rd 3 rfl) sl97 rfl) rfl ?_
      refine ro_lt (r_lss rfl rfl) rfl ?_
      refine RO.nil (nx ?_)
      replace h := ite_some h; rcases h with ⟨c91, h⟩ | ⟨c91, h⟩
      rotate_left
      · refine ex_if_f rfl (decide_eq_false c91) ?_
        refine ex_exit (tq_exit ?_)
        obtain rfl := Option.some.inj h
        exact lq_out ⟨v88, ⟨rfl, rfl, rfl, rfl, rfl, rfl, trivial⟩, HS⟩
      refine ex_if_t rfl (decide_eq_true c91) ?_
      refine ex_skip (nx ?_)
      refine ex_seq ?_
      refine ex_block ?_
      refine ex_dr (Mm H5 [1, 6, 10]) (fun _ => True) [0, 1, 0, 0, 0, 24, 56, 0, 0, 384, 896, 2044, 4092, 8191, 16383, 32767] [11, 12, 13, 15] (.op 0 (.op 1 (.op 2 (.op 3 (.op 4 (.op 5 (.op 6 (.op 7 (.op 8 (.op 9 (.op 10 (.op 11 (.op 12 (.op 13 (.op 14 (.op 15 .nil)))))))))))))))) mix (by kernel_rfl) (by kernel_rfl) ?_
      intro w92 hw hb; have HS := HS.ext hb; clear hw hb
      refine RT.lt rfl rfl rfl rfl (fun w' k => r_fa (HS.boxAt 0 rfl) fd27_1 rfl) ?_
      refine RT.lt rfl rfl rfl rfl (fun w' k => r_ld (((HS.boxAt 0 rfl).seg 1 1).k0 (Sub.refl _) (k.kp.none rfl)) sc25 rfl) ?_
      refine RT.lt rfl rfl rfl rfl (fun w' k => r_lda (l4.kp HS.sub k.kp (mh rfl)) ag27 rfl rfl) ?_
      refine RT.lt rfl rfl rfl rfl (fun w' k => r_mv (v := v29) rfl) ?_
      refine RT.lt rfl rfl rfl rfl (fun w' k => r_mv (v := iv i_52) rfl) ?_
      obtain ⟨v93, r94, l95⟩ := (HS.rd 3 rfl).slE g57.1 g57.2
      refine RT.lt rfl rfl rfl rfl (fun w' k => r_ia (HS.rd 3 rfl) sl97 g57.1 g57.2 rfl rfl) ?_
      refine RT.lt rfl rfl rfl rfl (fun w' k => r_ld (l95.k0 (Sub.refl _) (k.kp.none rfl)) sc25 rfl) ?_
      refine RT.lt rfl rfl rfl rfl (fun w' k => r_mv (v := v29) rfl) ?_
      refine RT.lt rfl rfl rfl rfl (fun w' k => r_mv (v := iv j_89) rfl) ?_
      replace h := grd_some h; obtain ⟨g96, h⟩ := h
      obtain ⟨v97, r98, l99⟩ := (HS.rd 3 rfl).slE g96.1 g96.2
      refine RT.lt rfl rfl rfl rfl (fun w' k => r_ia (HS.rd 3 rfl) sl97 g96.1 g96.2 rfl rfl) ?_
      refine RT.lt rfl rfl rfl rfl (fun w' k => r_ld (l99.k0 (Sub.refl _) (k.kp.none rfl)) sc25 rfl) ?_
      replace h := bind_some h; obtain ⟨y100, e101, h⟩ := h
      refine RT.hy rfl rfl rfl rfl rfl (o_cf (vs := [.agg #[v_s0, v_s1], v93, v97]) HS rfl (c_spec_l17Next (r_s0.sub HS.sub) (r_s1.sub HS.sub) r94 r98 e101) cf89 rfl) (fun _ _ ⟨_, hb, _⟩ => km_below hb (fun _ => trivial)) ?_
      rintro _ w102 ⟨rfl, hb, HS⟩
      replace r94 := r94.sub (Below.sub' hb)
      replace l95 := l95.sub (Below.sub' hb)
      replace r98 := r98.sub (Below.sub' hb)
      replace l99 := l99.sub (Below.sub' hb)
      refine RT.hy rfl rfl rfl rfl rfl (o_bsv HS (cs := [iv y100]) sl25 zz3 (vs := [iv y100]) rfl rfl (vc rfl vc0) rfl rfl (by decide)) (fun _ _ ⟨_, _, hb, _⟩ => km_below hb (fun _ => trivial)) ?_
      rintro _ w104 ⟨g103, rfl, hb, HS⟩
      replace r94 := r94.sub (Below.sub' hb)
      replace l95 := l95.sub (Below.sub' hb)
      replace r98 := r98.sub (Below.sub' hb)
      replace l99 := l99.sub (Below.sub' hb)
      replace h := grd_some h; obtain ⟨g106, h⟩ := h
      refine RT.hy rfl rfl rfl rfl rfl (o_appf (HS.sel (G := [_, _, _, _, _, _]) [3] 0 rfl) rfl rfl rfl rfl sl25 zz3 g106) (fun _ _ ⟨HS2, hk⟩ => km_st HS (Sub.refl _) (hk _ fun _ h => h) (own_none (HS.sel (G := [_, _, _, _, _, _]) [3] 0 rfl)) (by kernel_rfl) (fun _ => trivial)) ?_
      rintro v108 w109 ⟨HS, hk⟩
      refine RT.lt rfl rfl rfl rfl (fun w' k => r_fa (HS.boxAt 1 rfl) fd27_1 rfl) ?_
      refine RT.hy rfl rfl rfl rfl rfl (o_str (off := 1) (vs := [v108]) (l' := [v79, v108]) (HS.sel (G := [_, _, _, _, _]) [1] 0 rfl) rfl rfl (HS.rd 0 rfl).vc st25 rfl rfl (pl (HS.rd 0 rfl).pl pl0) rfl) (fun _ _ ⟨_, hk, HS2⟩ => km_st HS (Sub.refl _) (hk (fun b => b = g30) rfl) (fun b hb => hb ▸ bx_none (HS.sel (G := [_, _, _, _, _]) [1] 0 rfl)) (by kernel_rfl) (fun _ => trivial)) ?_
      rintro _ w111 ⟨rfl, hk, HS⟩
      refine RT.nil (blk_nx (nx ?_))
      refine ex_region ?_
      refine ro_lt (r_mv (v := iv j_89) rfl) rfl ?_
      refine ro_lt (r_addw rfl rfl) rfl ?_
      refine ro_lt (r_as (v := iv (wi (j_89 + 1))) rfl) rfl ?_
      refine RO.nil ?_
      obtain rfl := Option.some.inj h
      exact lq_go ⟨v108, ⟨rfl, rfl, rfl, rfl, rfl, rfl, trivial⟩, (HS.sel (G := [_, _, _, _, _]) [0, 1, 0, 0, 0] 0 rfl)⟩
    rintro s' w115 ⟨v88, hs_, HS⟩
    rw [has_put hs_]; clear hs_
    refine (blk_nx (nx ?_))
    refine ex_region ?_
    refine ro_lt (r_mv (v := iv i_52) rfl) rfl ?_
    refine ro_lt (r_addw rfl rfl) rfl ?_
    refine ro_lt (r_as (v := iv (wi (i_52 + 1))) rfl) rfl ?_
    refine RO.nil ?_
    obtain rfl := Option.some.inj h
    exact lq_go ⟨v79, v88, ⟨rfl, rfl, rfl, rfl, rfl, trivial⟩, (HS.sel (G := [_, _, _, _, _]) [2, 1, 0, 0, 0] 0 rfl)⟩
  rintro s' w121 ⟨v48, v51, hs_, HS⟩
  rw [has_put hs_]; clear hs_
  refine (nx ?_)
  refine ex_seq ?_
  refine ex_region ?_
  refine ro_lt (r_lda (HS.boxAt 2 rfl) ag27 rfl rfl) rfl ?_
  refine ro_hy (o_str (off := 0) (vs := [v48, v51]) (l' := [v48, v51]) (HS.sel (G := [_, _, _, _, _]) [4] 0 rfl) rfl rfl rfl st27 rfl rfl (pl (HS.rd 1 rfl).pl (pl (HS.rd 0 rfl).pl pl0)) rfl) rfl ?_
  rintro _ w123 ⟨rfl, hk, HS⟩
  refine RO.nil (nx ?_)
  obtain rfl := Option.some.inj h
  refine ex_ret ?_
  exact ret1 (.inr rfl) rfl (rv_box HS (i := 0) rfl rfl ag27 rfl) (P1.of (((HS.sel (G := [_, _, _, _, _]) [1] 0 rfl).sel (G := [_, _, _, _, _]) [2] 0 rfl).join) hs)
theorem c_spec_IsBlurred {w : World} {s : (List (List Int × List Int × Int × Int)) × List Int} {v_s0 : Value} {v_s1 : Value} (r_s0 : Rd (.sl 72 (.prod (.sl 3 (.int .i64)) (.prod (.sl 3 (.int .i64)) (.prod (.int .i64) (.int .i64))))) (hp w) s.1 [v_s0]) (r_s1 : Rd (.sl 3 (.int .i64)) (hp w) s.2 [v_s1]) {r : Bool} (h : F_spec_IsBlurred s = some r) : Calls Try.prog 31 [.agg #[v_s0, v_s1]].toArray w (P1 .bool w r) := by
  unfold F_spec_IsBlurred at h
  have HS := St.init w
  have hs := Sub.refl (hp w)
  refine calls_ex (n := 7) Try.func31 rfl Try.ntmps31 (Nat.le_of_ble_eq_true rfl) ?_
  refine ex_seq ?_
  refine ex_region ?_
  refine ro_hy (o_boxz HS (cs := [v_s0, v_s1]) rfl rfl) rfl ?_
  rintro _ w2 ⟨g1, H5, rfl, q3, l4, hb, HS⟩
  replace r_s0 := r_s0.sub q3
  replace r_s1 := r_s1.sub q3
  replace hs := hs.trans q3
  refine ro_lt (r_as (v := .bool false) rfl) rfl ?_
  refine RO.nil (nx ?_)
  refine ex_seq ?_
  refine ex_dr (Mm H5 []) (fun _ => True) [0, 0, 2, 7, 15] [2, 3] (.op 0 (.op 1 (.op 2 (.op 3 (.op 4 .nil))))) mix (by kernel_rfl) (by kernel_rfl) ?_
  intro w6 hw hb; have HS := HS.ext hb; clear hw hb
  refine RT.lt rfl rfl rfl rfl (fun w' k => r_lda (l4.kp HS.sub k.kp (mh rfl)) ag27 rfl rfl) ?_
  refine RT.lt rfl rfl rfl rfl (fun w' k => r_lda (l4.kp HS.sub k.kp (mh rfl)) ag27 rfl rfl) ?_
  replace h := bind_some h; obtain ⟨y7, e8, h⟩ := h
  refine RT.hy rfl rfl rfl rfl rfl (o_c1 (vs := [.agg #[v_s0, v_s1]]) HS (c_spec_Blur (r_s0.sub HS.sub) (r_s1.sub HS.sub) e8) cf33 rfl) (fun _ _ ⟨_, _, hb, _⟩ => km_below hb (fun _ => trivial)) ?_
  rintro _ w9 ⟨cs10, rfl, hb, HS⟩
  replace HS := st_K27 HS
  obtain ⟨v12, v14, rfl, HS⟩ := HS
  replace h := bind_some h; obtain ⟨y15, e16, h⟩ := h
  refine RT.hy rfl rfl rfl rfl rfl (o_cf (vs := [.agg #[v_s0, v_s1], .agg #[v12, v14]]) HS rfl (c_spec_EqualStructure (r_s0.sub HS.sub) (r_s1.sub HS.sub) (HS.rd 0 rfl) (HS.rd 1 rfl) e16) cf16 rfl) (fun _ _ ⟨_, hb, _⟩ => km_below hb (fun _ => trivial)) ?_
  rintro _ w17 ⟨rfl, hb, HS⟩
  refine RT.lt rfl rfl rfl rfl (fun w' k => r_as (v := .bool y15) rfl) ?_
  refine RT.nil (nx ?_)
  obtain rfl := Option.some.inj h
  refine ex_ret ?_
  exact ret1 (.inr rfl) rfl rfl (P1.of_flat HS hs rfl)
theorem c_impl_within {w : World} {n : Int} {low : Int} {high : Int} {r : Bool} (h : F_impl_within n low high = some r) : Calls Try.prog 99 [iv n, iv low, iv high].toArray w (P1 .bool w r) := by
  unfold F_impl_within at h
  have HS := St.init w
  have hs := Sub.refl (hp w)
  refine calls_ex (n := 15) Try.func99 rfl Try.ntmps99 (Nat.le_of_ble_eq_true rfl) ?_
  refine ex_seq ?_
  refine ex_region ?_
  refine ro_lt (r_as (v := .bool false) rfl) rfl ?_
  refine RO.nil (nx ?_)
  refine ex_seq ?_
  refine ex_region ?_
  refine ro_lt (r_mv (v := iv low) rfl) rfl ?_
  refine ro_lt (r_mv (v := iv n) rfl) rfl ?_
  refine ro_lt (r_leq rfl rfl) rfl ?_
  refine ro_lt (r_mv (v := .bool ((decide (low ≤ n)))) rfl) rfl ?_
  replace h := ite_some h; rcases h with ⟨c1, h⟩ | ⟨c1, h⟩
  rotate_left
  · refine ro_off (sb (decide_eq_false c1)) rfl rfl ?_
    refine ro_off (sb (decide_eq_false c1)) rfl rfl ?_
    refine ro_off (sb (decide_eq_false c1)) rfl rfl ?_
    refine ro_lt (r_pickf (v := .bool false) (decide_eq_false c1) rfl rfl) rfl ?_
    refine ro_lt (r_as (v := .bool false) rfl) rfl ?_
    refine RO.nil (nx ?_)
    obtain rfl := Option.some.inj h
    refine ex_ret ?_
    exact ret1 (.inr rfl) rfl rfl (P1.of_flat HS hs rfl)
  refine ro_on (sb (decide_eq_true c1)) ?_
  refine ro_lt (r_mv (v := iv n) rfl) rfl ?_
  refine ro_on (sb (decide_eq_true c1)) ?_
  refine ro_lt (r_mv (v := iv high) rfl) rfl ?_
  refine ro_on (sb (decide_eq_true c1)) ?_
  refine ro_lt (r_leq rfl rfl) rfl ?_
  refine ro_lt (r_pickt (v := .bool ((decide (n ≤ high)))) (decide_eq_true c1) rfl rfl) rfl ?_
  refine ro_lt (r_as (v := .bool ((decide (n ≤ high)))) rfl) rfl ?_
  refine RO.nil (nx ?_)
  obtain rfl := Option.some.inj h
  refine ex_ret ?_
  exact ret1 (.inr rfl) rfl rfl (P1.of_flat HS hs rfl)
theorem c_slices_IndexFunc_int_int {w : World} {s : List Int} {v_s : Value} {f : Int → Option Bool} {v_f : Value} (r_s : Rd (.sl 3 (.int .i64)) (hp w) s [v_s]) (k_f : Fn1 Try.prog (hp w) (.int .i64) .bool v_f f) {r : Int} (h : F_slices_IndexFunc_int_int s f = some r) : Calls Try.prog 183 [v_s, v_f].toArray w (P1 (.int .i64) w r) := by
  unfold F_slices_IndexFunc_int_int at h
  have HS := St.init w
  have hs := Sub.refl (hp w)
  refine calls_ex (n := 19) Try.func183 rfl Try.ntmps183 (Nat.le_of_ble_eq_true rfl) ?_
  refine ex_seq ?_
  refine ex_region ?_
  refine ro_lt (r_as (v := iv 0) rfl) rfl ?_
  refine RO.nil (nx ?_)
  refine ex_seq ?_
  refine ex_seq ?_
  refine ex_region ?_
  refine ro_lt (r_mv (v := v_s) rfl) rfl ?_
  have b1 := (r_s.sub HS.sub).big
  refine ro_lt (r_len (n := 1) (r_s.sub HS.sub) sl25 rfl) rfl ?_
  refine ro_lt (r_mv (v := iv 0) rfl) rfl ?_
  refine RO.nil (nx ?_)
  replace h := bind_some h; obtain ⟨y15, e16, h⟩ := h
  refine ex_lbr (fun (st : Int) s' w' => Has s' [(0, v_s), (1, v_f), (4, iv 0), (7, iv ((s.length : Int))), (8, iv st)] ∧ St w (hp w) w' []) (fun r s' w' => FQ Try.prog Try.f183 19 (P1 (.int .i64) w r) .ret s' w') e16 ⟨⟨rfl, rfl, rfl, rfl, rfl, trivial⟩, HS⟩ ?_ ?_
  · rintro i7 c' s' w8 ⟨hs_, HS⟩ h
    rw [has_put hs_]; clear hs_
    replace h : F_slices_IndexFunc_int_int_b1 s f i7 = some c' := h
    unfold F_slices_IndexFunc_int_int_b1 at h
    refine ex_seq ?_
    refine ex_region ?_
    refine ro_lt (r_lss rfl rfl) rfl ?_
    refine RO.nil (nx ?_)
    refine ex_seq ?_
    replace h := ite_some h; rcases h with ⟨c9, h⟩ | ⟨c9, h⟩
    rotate_left
    · refine ex_if_f rfl (decide_eq_false c9) ?_
      refine ex_exit (tq_exit ?_)
      obtain rfl := Option.some.inj h
      exact lq_out ⟨⟨rfl, rfl, rfl, rfl, rfl, trivial⟩, HS⟩
    refine ex_if_t rfl (decide_eq_true c9) ?_
    refine ex_skip (nx ?_)
    refine ex_seq ?_
    refine ex_block ?_
    refine ex_seq ?_
    refine ex_region ?_
    refine ro_lt (r_mv (v := iv i7) rfl) rfl ?_
    refine ro_lt (r_as (v := iv i7) rfl) rfl ?_
    refine RO.nil (nx ?_)
    refine ex_seq ?_
    refine ex_region ?_
    refine ro_lt (r_mv (v := v_f) rfl) rfl ?_
    refine ro_lt (r_mv (v := v_s) rfl) rfl ?_
    refine ro_lt (r_mv (v := iv i7) rfl) rfl ?_
    replace h := grd_some h; obtain ⟨g10, h⟩ := h
    refine ro_lt (r_ia (r_s.sub HS.sub) sl25 g10.1 g10.2 rfl rfl) rfl ?_
    refine ro_lt (r_ld ((r_s.int g10.1 g10.2).sub HS.sub) sc3 rfl) rfl ?_
    replace h := bind_some h; obtain ⟨y11, e12, h⟩ := h
    refine ro_hy (o_f1 HS rfl (k_f.sub (Sub.refl _)) rfl rfl rfl e12) rfl ?_
    rintro _ w13 ⟨rfl, hb, HS⟩
    refine RO.nil (nx ?_)
    replace h := ite_some h; rcases h with ⟨c14, h⟩ | ⟨c14, h⟩
    rotate_left
    · refine ex_if_f rfl (bf c14) ?_
      refine ex_skip (blk_nx (nx ?_))
      refine ex_region ?_
      refine ro_lt (r_addw rfl rfl) rfl ?_
      refine ro_lt (r_mv (v := iv (wi (i7 + 1))) rfl) rfl ?_
      refine RO.nil ?_
      obtain rfl := Option.some.inj h
      exact lq_go ⟨⟨rfl, rfl, rfl, rfl, rfl, trivial⟩, HS⟩
    refine ex_if_t rfl (c14) ?_
    refine ex_seq ?_
    refine ex_region ?_
    refine ro_lt (r_mv (v := iv i7) rfl) rfl ?_
    refine ro_lt (r_as (v := iv i7) rfl) rfl ?_
    refine RO.nil (nx ?_)
    obtain rfl := Option.some.inj h
    refine ex_ret (blk_ret (tq_ret (lq_ret ?_)))
    exact ret1 (.inr rfl) rfl rfl (P1.of_flat HS hs rfl)
  rcases y15 with r19 | y15
  · intro s' w' hR
    obtain rfl := Option.some.inj h
    exact (tq_ret hR)
  rintro s' w17 ⟨hs_, HS⟩
  rw [has_put hs_]; clear hs_
  refine (nx ?_)
  refine ex_seq ?_
  refine ex_region ?_
  refine ro_lt (r_as (v := iv ((-1))) rfl) rfl ?_
  refine RO.nil (nx ?_)
  obtain rfl := Option.some.inj h
  refine ex_ret ?_
  exact ret1 (.inr rfl) rfl rfl (P1.of_flat HS hs rfl)
theorem c_slices_ContainsFunc_int_int {w : World} {s : List Int} {v_s : Value} {f : Int → Option Bool} {v_f : Value} (r_s : Rd (.sl 3 (.int .i64)) (hp w) s [v_s]) (k_f : Fn1 Try.prog (hp w) (.int .i64) .bool v_f f) {r : Bool} (h : F_slices_ContainsFunc_int_int s f = some r) : Calls Try.prog 153 [v_s, v_f].toArray w (P1 .bool w r) := by
  unfold F_slices_ContainsFunc_int_int at h
  have HS := St.init w
  have hs := Sub.refl (hp w)
  refine calls_ex (n := 9) Try.func153 rfl Try.ntmps153 (Nat.le_of_ble_eq_true rfl) ?_
  refine ex_seq ?_
  refine ex_region ?_
  refine ro_lt (r_as (v := .bool false) rfl) rfl ?_
  refine RO.nil (nx ?_)
  refine ex_seq ?_
  refine ex_region ?_
  refine ro_lt (r_mv (v := v_s) rfl) rfl ?_
  refine ro_lt (r_mv (v := v_f) rfl) rfl ?_
  replace h := bind_some h; obtain ⟨y1, e2, h⟩ := h
  refine ro_hy (o_cf (vs := [v_s, v_f]) HS rfl (c_slices_IndexFunc_int_int (r_s.sub HS.sub) (k_f.sub HS.sub) e2) cf183 rfl) rfl ?_
  rintro _ w3 ⟨rfl, hb, HS⟩
  refine ro_lt (r_geq rfl rfl) rfl ?_
  refine ro_lt (r_as (v := .bool ((decide (y1 ≥ 0)))) rfl) rfl ?_
  refine RO.nil (nx ?_)
  obtain rfl := Option.some.inj h
  refine ex_ret ?_
  exact ret1 (.inr rfl) rfl rfl (P1.of_flat HS hs rfl)
theorem c_impl_IsTruth {w : World} {a : Int} {r : Bool} (h : F_impl_IsTruth a = some r) : Calls Try.prog 103 [iv a].toArray w (P1 .bool w r) := by
  unfold F_impl_IsTruth at h
  have HS := St.init w
  have hs := Sub.refl (hp w)
  refine calls_ex (n := 5) Try.func103 rfl Try.ntmps103 (Nat.le_of_ble_eq_true rfl) ?_
  refine ex_seq ?_
  refine ex_region ?_
  refine ro_lt (r_as (v := .bool false) rfl) rfl ?_
  refine RO.nil (nx ?_)
  refine ex_seq ?_
  refine ex_region ?_
  refine ro_lt (r_mv (v := iv a) rfl) rfl ?_
  replace h := bind_some h; obtain ⟨y1, e2, h⟩ := h
  refine ro_hy (o_cf (vs := [iv a, iv 0, iv 2]) HS rfl (c_impl_within e2) cf99 rfl) rfl ?_
  rintro _ w3 ⟨rfl, hb, HS⟩
  refine ro_lt (r_as (v := .bool y1) rfl) rfl ?_
  refine RO.nil (nx ?_)
  obtain rfl := Option.some.inj h
  refine ex_ret ?_
  exact ret1 (.inr rfl) rfl rfl (P1.of_flat HS hs rfl)
theorem c_impl_areTruths_1 {w : World} {a : Int} {r : Bool} (h : F_impl_areTruths_1 a = some r) : Calls Try.prog 154 [iv a].toArray w (P1 .bool w r) := by
  unfold F_impl_areTruths_1 at h
  have HS := St.init w
  have hs := Sub.refl (hp w)
  refine calls_ex (n := 6) Try.func154 rfl Try.ntmps154 (Nat.le_of_ble_eq_true rfl) ?_
  refine ex_seq ?_
  refine ex_region ?_
  refine ro_lt (r_as (v := .bool false) rfl) rfl ?_
  refine RO.nil (nx ?_)
  refine ex_seq ?_
  refine ex_region ?_
  refine ro_lt (r_mv (v := iv a) rfl) rfl ?_
  replace h := bind_some h; obtain ⟨y1, e2, h⟩ := h
  refine ro_hy (o_cf (vs := [iv a]) HS rfl (c_impl_IsTruth e2) cf103 rfl) rfl ?_
  rintro _ w3 ⟨rfl, hb, HS⟩
  refine ro_lt (r_not rfl) rfl ?_
  refine ro_lt (r_as (v := .bool ((!y1))) rfl) rfl ?_
  refine RO.nil (nx ?_)
  obtain rfl := Option.some.inj h
  refine ex_ret ?_
  exact ret1 (.inr rfl) rfl rfl (P1.of_flat HS hs rfl)
theorem c_impl_areTruths {w : World} {list : List Int} {v_list : Value} (r_list : Rd (.sl 3 (.int .i64)) (hp w) list [v_list]) {r : Bool} (h : F_impl_areTruths list = some r) : Calls Try.prog 100 [v_list].toArray w (P1 .bool w r) := by
  unfold F_impl_areTruths at h
  have HS := St.init w
  have hs := Sub.refl (hp w)
  refine calls_ex (n := 6) Try.func100 rfl Try.ntmps100 (Nat.le_of_ble_eq_true rfl) ?_
  refine ex_seq ?_
  refine ex_region ?_
  refine ro_lt (r_as (v := .bool false) rfl) rfl ?_
  refine RO.nil (nx ?_)
  refine ex_seq ?_
  refine ex_region ?_
  refine ro_lt (r_mv (v := v_list) rfl) rfl ?_
  replace h := bind_some h; obtain ⟨y4, e5, h⟩ := h
  refine ro_hy (o_cf (vs := [v_list, .func (.func 154) #[] #[]]) HS rfl (c_slices_ContainsFunc_int_int (r_list.sub HS.sub) ⟨154, [], [], rfl, cf154, by intro w' x1 c2 r' hs' r3 hx; obtain rfl := r3; exact c_impl_areTruths_1  hx⟩ e5) cf153 rfl) rfl ?_
  rintro _ w6 ⟨rfl, hb, HS⟩
  refine ro_lt (r_not rfl) rfl ?_
  refine ro_lt (r_as (v := .bool ((!y4))) rfl) rfl ?_
  refine RO.nil (nx ?_)
  obtain rfl := Option.some.inj h
  refine ex_ret ?_
  exact ret1 (.inr rfl) rfl rfl (P1.of_flat HS hs rfl)
theorem c_slices_IndexFunc_Node_Node {w : World} {s : List (List Int × List Int × Int × Int)} {v_s : Value} {f : (List Int × List Int × Int × Int) → Option Bool} {v_f : Value} (r_s : Rd (.sl 72 (.prod (.sl 3 (.int .i64)) (.prod (.sl 3 (.int .i64)) (.prod (.int .i64) (.int .i64))))) (hp w) s [v_s]) (k_f : Fn1 Try.prog (hp w) (.prod (.sl 3 (.int .i64)) (.prod (.sl 3 (.int .i64)) (.prod (.int .i64) (.int .i64)))) .bool v_f f) {r : Int} (h : F_slices_IndexFunc_Node_Node s f = some r) : Calls Try.prog 97 [v_s, v_f].toArray w (P1 (.int .i64) w r) := by
  unfold F_slices_IndexFunc_Node_Node at h
  have HS := St.init w
  have hs := Sub.refl (hp w)
  refine calls_ex (n := 19) Try.func97 rfl Try.ntmps97 (Nat.le_of_ble_eq_true rfl) ?_
  refine ex_seq ?_
  refine ex_region ?_
  refine ro_lt (r_as (v := iv 0) rfl) rfl ?_
  refine RO.nil (nx ?_)
  refine ex_seq ?_
  refine ex_seq ?_
  refine ex_region ?_
  refine ro_lt (r_mv (v := v_s) rfl) rfl ?_
  have b1 := (r_s.sub HS.sub).big
  refine ro_lt (r_len (n := 4) (r_s.sub HS.sub) sl24 rfl) rfl ?_
  refine ro_lt (r_mv (v := iv 0) rfl) rfl ?_
  refine RO.nil (nx ?_)
  replace h := bind_some h; obtain ⟨y21, e22, h⟩ := h
  refine ex_lbr (fun (st : Int) s' w' => Has s' [(0, v_s), (1, v_f), (4, iv 0), (7, iv ((s.length : Int))), (8, iv st)] ∧ St w (hp w) w' []) (fun r s' w' => FQ Try.prog Try.f97 19 (P1 (.int .i64) w r) .ret s' w') e22 ⟨⟨rfl, rfl, rfl, rfl, rfl, trivial⟩, HS⟩ ?_ ?_
  · rintro i7 c' s' w8 ⟨hs_, HS⟩ h
    rw [has_put hs_]; clear hs_
    replace h : F_slices_IndexFunc_Node_Node_b1 s f i7 = some c' := h
    unfold F_slices_IndexFunc_Node_Node_b1 at h
    refine ex_seq ?_
    refine ex_region ?_
    refine ro_lt (r_lss rfl rfl) rfl ?_
    refine RO.nil (nx ?_)
    refine ex_seq ?_
    replace h := ite_some h; rcases h with ⟨c9, h⟩ | ⟨c9, h⟩
    rotate_left
    · refine ex_if_f rfl (decide_eq_false c9) ?_
      refine ex_exit (tq_exit ?_)
      obtain rfl := Option.some.inj h
      exact lq_out ⟨⟨rfl, rfl, rfl, rfl, rfl, trivial⟩, HS⟩
    refine ex_if_t rfl (decide_eq_true c9) ?_
    refine ex_skip (nx ?_)
    refine ex_seq ?_
    refine ex_block ?_
    refine ex_seq ?_
    refine ex_region ?_
    refine ro_lt (r_mv (v := iv i7) rfl) rfl ?_
    refine ro_lt (r_as (v := iv i7) rfl) rfl ?_
    refine RO.nil (nx ?_)
    refine ex_seq ?_
    refine ex_region ?_
    refine ro_lt (r_mv (v := v_f) rfl) rfl ?_
    refine ro_lt (r_mv (v := v_s) rfl) rfl ?_
    refine ro_lt (r_mv (v := iv i7) rfl) rfl ?_
    replace h := grd_some h; obtain ⟨g10, h⟩ := h
    obtain ⟨_, q11, l12⟩ := r_s.idx g10.1 g10.2
    obtain ⟨v13, v15, rfl, r14, r16⟩ := rd_K72 q11
    refine ro_lt (r_ia (r_s.sub HS.sub) sl24 g10.1 g10.2 rfl rfl) rfl ?_
    refine ro_lt (r_lda (l12.sub HS.sub) ag72 rfl rfl) rfl ?_
    replace h := bind_some h; obtain ⟨y17, e18, h⟩ := h
    refine ro_hy (o_f1 HS rfl (k_f.sub (Sub.refl _)) rfl rfl (mk_K72 (r14.sub HS.sub) (r16.sub HS.sub)) e18) rfl ?_
    rintro _ w19 ⟨rfl, hb, HS⟩
    refine RO.nil (nx ?_)
    replace h := ite_some h; rcases h with ⟨c20, h⟩ | ⟨c20, h⟩
    rotate_left
    · refine ex_if_f rfl (bf c20) ?_
      refine ex_skip (blk_nx (nx ?_))
      refine ex_region ?_
      refine ro_lt (r_addw rfl rfl) rfl ?_
      refine ro_lt (r_mv (v := iv (wi (i7 + 1))) rfl) rfl ?_
      refine RO.nil ?_
      obtain rfl := Option.some.inj h
      exact lq_go ⟨⟨rfl, rfl, rfl, rfl, rfl, trivial⟩, HS⟩
    refine ex_if_t rfl (c20) ?_
    refine ex_seq ?_
    refine ex_region ?_
    refine ro_lt (r_mv (v := iv i7) rfl) rfl ?_
    refine ro_lt (r_as (v := iv i7) rfl) rfl ?_
    refine RO.nil (nx ?_)
    obtain rfl := Option.some.inj h
    refine ex_ret (blk_ret (tq_ret (lq_ret ?_)))
    exact ret1 (.inr rfl) rfl rfl (P1.of_flat HS hs rfl)
  rcases y21 with r25 | y21
  · intro s' w' hR
    obtain rfl := Option.some.inj h
    exact (tq_ret hR)
  rintro s' w23 ⟨hs_, HS⟩
  rw [has_put hs_]; clear hs_
  refine (nx ?_)
  refine ex_seq ?_
  refine ex_region ?_
  refine ro_lt (r_as (v := iv ((-1))) rfl) rfl ?_
  refine RO.nil (nx ?_)
  obtain rfl := Option.some.inj h
  refine ex_ret ?_
  exact ret1 (.inr rfl) rfl rfl (P1.of_flat HS hs rfl)
theorem c_slices_ContainsFunc_Node_Node {w : World} {s : List (List Int × List Int × Int × Int)} {v_s : Value} {f : (List Int × List Int × Int × Int) → Option Bool} {v_f : Value} (r_s : Rd (.sl 72 (.prod (.sl 3 (.int .i64)) (.prod (.sl 3 (.int .i64)) (.prod (.int .i64) (.int .i64))))) (hp w) s [v_s]) (k_f : Fn1 Try.prog (hp w) (.prod (.sl 3 (.int .i64)) (.prod (.sl 3 (.int .i64)) (.prod (.int .i64) (.int .i64)))) .bool v_f f) {r : Bool} (h : F_slices_ContainsFunc_Node_Node s f = some r) : Calls Try.prog 101 [v_s, v_f].toArray w (P1 .bool w r) := by
  unfold F_slices_ContainsFunc_Node_Node at h
  have HS := St.init w
  have hs := Sub.refl (hp w)
  refine calls_ex (n := 9) Try.func101 rfl Try.ntmps101 (Nat.le_of_ble_eq_true rfl) ?_
  refine ex_seq ?_
  refine ex_region ?_
  refine ro_lt (r_as (v := .bool false) rfl) rfl ?_
  refine RO.nil (nx ?_)
  refine ex_seq ?_
  refine ex_region ?_
  refine ro_lt (r_mv (v := v_s) rfl) rfl ?_
  refine ro_lt (r_mv (v := v_f) rfl) rfl ?_
  replace h := bind_some h; obtain ⟨y1, e2, h⟩ := h
  refine ro_hy (o_cf (vs := [v_s, v_f]) HS rfl (c_slices_IndexFunc_Node_Node (r_s.sub HS.sub) (k_f.sub HS.sub) e2) cf97 rfl) rfl ?_
  rintro _ w3 ⟨rfl, hb, HS⟩
  refine ro_lt (r_geq rfl rfl) rfl ?_
  refine ro_lt (r_as (v := .bool ((decide (y1 ≥ 0)))) rfl) rfl ?_
  refine RO.nil (nx ?_)
  obtain rfl := Option.some.inj h
  refine ex_ret ?_
  exact ret1 (.inr rfl) rfl rfl (P1.of_flat HS hs rfl)
theorem c_impl_IsStructure_1 {w : World} {x : List Int × List Int × Int × Int} {v_x0 : Value} {v_x1 : Value} {a1 : Int} {p_a1 : Value} (r_x0 : Rd (.sl 3 (.int .i64)) (hp w) x.1 [v_x0]) (r_x1 : Rd (.sl 3 (.int .i64)) (hp w) x.2.1 [v_x1]) (l_a1 : AtH (hp w) p_a1 [iv a1]) {r : Bool} (h : F_impl_IsStructure_1 x a1 = some r) : Calls Try.prog 102 [.agg #[v_x0, v_x1, iv x.2.2.1, iv x.2.2.2], p_a1].toArray w (P1 .bool w r) := by
  unfold F_impl_IsStructure_1 at h
  have HS := St.init w
  have hs := Sub.refl (hp w)
  refine calls_ex (n := 44) Try.func102 rfl Try.ntmps102 (Nat.le_of_ble_eq_true rfl) ?_
  refine ex_seq ?_
  refine ex_region ?_
  refine ro_hy (o_boxz HS (cs := [v_x0, v_x1, iv x.2.2.1, iv x.2.2.2]) rfl rfl) rfl ?_
  rintro _ w2 ⟨g1, H5, rfl, q3, l4, hb, HS⟩
  replace r_x0 := r_x0.sub q3
  replace r_x1 := r_x1.sub q3
  replace l_a1 := l_a1.sub q3
  replace hs := hs.trans q3
  refine ro_lt (r_as (v := .bool false) rfl) rfl ?_
  refine RO.nil (nx ?_)
  refine ex_seq ?_
  refine ex_region ?_
  refine ro_lt (r_fa (l4.sub HS.sub) fd72_0 rfl) rfl ?_
  refine ro_lt (r_ld ((l4.seg 0 1).sub HS.sub) sc25 rfl) rfl ?_
  have b6 := (r_x0.sub HS.sub).big
  refine ro_lt (r_len (n := 1) (r_x0.sub HS.sub) sl25 rfl) rfl ?_
  refine ro_lt (r_ld (l_a1.sub HS.sub) sc3 rfl) rfl ?_
  refine ro_lt (r_neq rfl rfl) rfl ?_
  refine ro_lt (r_mv (v := .bool ((!(decide ((x.1.length : Int) = a1))))) rfl) rfl ?_
  replace h := ite_some h; rcases h with ⟨c7, h⟩ | ⟨c7, h⟩
  rotate_left
  · refine ro_off (sb (congrArg (!·) (decide_eq_false c7))) rfl rfl ?_
    refine ro_off (sb (congrArg (!·) (decide_eq_false c7))) rfl rfl ?_
    refine ro_off (sb (congrArg (!·) (decide_eq_false c7))) rfl rfl ?_
    refine ro_off (sb (congrArg (!·) (decide_eq_false c7))) rfl rfl ?_
    refine ro_off (sb (congrArg (!·) (decide_eq_false c7))) rfl rfl ?_
    refine ro_lt (r_pickt (v := .bool true) (congrArg (!·) (decide_eq_false c7)) rfl rfl) rfl ?_
    refine ro_lt (r_mv (v := .bool true) rfl) rfl ?_
    refine ro_off (sb (rfl)) rfl rfl ?_
    refine ro_off (sb (rfl)) rfl rfl ?_
    refine ro_off (sb (rfl)) rfl rfl ?_
    refine ro_off (sb (rfl)) rfl rfl ?_
    refine ro_lt (r_pickt (v := .bool true) (rfl) rfl rfl) rfl ?_
    refine ro_lt (r_mv (v := .bool true) rfl) rfl ?_
    refine ro_off (sb (rfl)) rfl rfl ?_
    refine ro_off (sb (rfl)) rfl rfl ?_
    refine ro_off (sb (rfl)) rfl rfl ?_
    refine ro_off (sb (rfl)) rfl rfl ?_
    refine ro_lt (r_pickt (v := .bool true) (rfl) rfl rfl) rfl ?_
    refine ro_lt (r_mv (v := .bool true) rfl) rfl ?_
    refine ro_off (sb (rfl)) rfl rfl ?_
    refine ro_off (sb (rfl)) rfl rfl ?_
    refine ro_off (sb (rfl)) rfl rfl ?_
    refine ro_off (sb (rfl)) rfl rfl ?_
    refine ro_lt (r_pickt (v := .bool true) (rfl) rfl rfl) rfl ?_
    refine ro_lt (r_mv (v := .bool true) rfl) rfl ?_
    refine ro_off (sb (rfl)) rfl rfl ?_
    refine ro_off (sb (rfl)) rfl rfl ?_
    refine ro_off (sb (rfl)) rfl rfl ?_
    refine ro_off (sb (rfl)) rfl rfl ?_
    refine ro_offn rfl rfl ?_
    refine ro_offn rfl rfl ?_
    refine ro_offn rfl rfl ?_
    refine ro_off (sb (rfl)) rfl rfl ?_
    refine ro_lt (r_pickt (v := .bool true) (rfl) rfl rfl) rfl ?_
    refine ro_lt (r_as (v := .bool true) rfl) rfl ?_
    refine RO.nil (nx ?_)
    obtain rfl := Option.some.inj h
    refine ex_ret ?_
    exact ret1 (.inr rfl) rfl rfl (P1.of_flat HS hs rfl)
  refine ro_on (sb (congrArg (!·) (decide_eq_true c7))) ?_
  refine ro_lt (r_fa (l4.sub HS.sub) fd72_1 rfl) rfl ?_
  refine ro_on (sb (congrArg (!·) (decide_eq_true c7))) ?_
  refine ro_lt (r_ld ((l4.seg 1 1).sub HS.sub) sc25 rfl) rfl ?_
  have b8 := (r_x1.sub HS.sub).big
  refine ro_on (sb (congrArg (!·) (decide_eq_true c7))) ?_
  refine ro_lt (r_len (n := 1) (r_x1.sub HS.sub) sl25 rfl) rfl ?_
  refine ro_on (sb (congrArg (!·) (decide_eq_true c7))) ?_
  refine ro_lt (r_ld (l_a1.sub HS.sub) sc3 rfl) rfl ?_
  refine ro_on (sb (congrArg (!·) (decide_eq_true c7))) ?_
  refine ro_lt (r_neq rfl rfl) rfl ?_
  refine ro_lt (r_pickf (v := .bool ((!(decide ((x.2.1.length : Int) = a1))))) (congrArg (!·) (decide_eq_true c7)) rfl rfl) rfl ?_
  refine ro_lt (r_mv (v := .bool ((!(decide ((x.2.1.length : Int) = a1))))) rfl) rfl ?_
  replace h := ite_some h; rcases h with ⟨c9, h⟩ | ⟨c9, h⟩
  rotate_left
  · refine ro_off (sb (congrArg (!·) (decide_eq_false c9))) rfl rfl ?_
    refine ro_off (sb (congrArg (!·) (decide_eq_false c9))) rfl rfl ?_
    refine ro_off (sb (congrArg (!·) (decide_eq_false c9))) rfl rfl ?_
    refine ro_off (sb (congrArg (!·) (decide_eq_false c9))) rfl rfl ?_
    refine ro_lt (r_pickt (v := .bool true) (congrArg (!·) (decide_eq_false c9)) rfl rfl) rfl ?_
    refine ro_lt (r_mv (v := .bool true) rfl) rfl ?_
    refine ro_off (sb (rfl)) rfl rfl ?_
    refine ro_off (sb (rfl)) rfl rfl ?_
    refine ro_off (sb (rfl)) rfl rfl ?_
    refine ro_off (sb (rfl)) rfl rfl ?_
    refine ro_lt (r_pickt (v := .bool true) (rfl) rfl rfl) rfl ?_
    refine ro_lt (r_mv (v := .bool true) rfl) rfl ?_
    refine ro_off (sb (rfl)) rfl rfl ?_
    refine ro_off (sb (rfl)) rfl rfl ?_
    refine ro_off (sb (rfl)) rfl rfl ?_
    refine ro_off (sb (rfl)) rfl rfl ?_
    refine ro_lt (r_pickt (v := .bool true) (rfl) rfl rfl) rfl ?_
    refine ro_lt (r_mv (v := .bool true) rfl) rfl ?_
    refine ro_off (sb (rfl)) rfl rfl ?_
    refine ro_off (sb (rfl)) rfl rfl ?_
    refine ro_off (sb (rfl)) rfl rfl ?_
    refine ro_off (sb (rfl)) rfl rfl ?_
    refine ro_offn rfl rfl ?_
    refine ro_offn rfl rfl ?_
    refine ro_offn rfl rfl ?_
    refine ro_off (sb (rfl)) rfl rfl ?_
    refine ro_lt (r_pickt (v := .bool true) (rfl) rfl rfl) rfl ?_
    refine ro_lt (r_as (v := .bool true) rfl) rfl ?_
    refine RO.nil (nx ?_)
    obtain rfl := Option.some.inj h
    refine ex_ret ?_
    exact ret1 (.inr rfl) rfl rfl (P1.of_flat HS hs rfl)
  refine ro_on (sb (congrArg (!·) (decide_eq_true c9))) ?_
  refine ro_lt (r_fa (l4.sub HS.sub) fd72_0 rfl) rfl ?_
  refine ro_on (sb (congrArg (!·) (decide_eq_true c9))) ?_
  refine ro_lt (r_ld ((l4.seg 0 1).sub HS.sub) sc25 rfl) rfl ?_
  replace h := bind_some h; obtain ⟨y10, e11, h⟩ := h
  refine ro_on (sb (congrArg (!·) (decide_eq_true c9))) ?_
  refine ro_hy (o_cf (vs := [v_x0]) HS rfl (c_impl_areTruths (r_x0.sub HS.sub) e11) cf100 rfl) rfl ?_
  rintro _ w12 ⟨rfl, hb, HS⟩
  refine ro_on (sb (congrArg (!·) (decide_eq_true c9))) ?_
  refine ro_lt (r_not rfl) rfl ?_
  refine ro_lt (r_pickf (v := .bool ((!y10))) (congrArg (!·) (decide_eq_true c9)) rfl rfl) rfl ?_
  refine ro_lt (r_mv (v := .bool ((!y10))) rfl) rfl ?_
  replace h := ite_some h; rcases h with ⟨c13, h⟩ | ⟨c13, h⟩
  rotate_left
  · refine ro_off (sb (congrArg (!·) (bf c13))) rfl rfl ?_
    refine ro_off (sb (congrArg (!·) (bf c13))) rfl rfl ?_
    refine ro_off (sb (congrArg (!·) (bf c13))) rfl rfl ?_
    refine ro_off (sb (congrArg (!·) (bf c13))) rfl rfl ?_
    refine ro_lt (r_pickt (v := .bool true) (congrArg (!·) (bf c13)) rfl rfl) rfl ?_
    refine ro_lt (r_mv (v := .bool true) rfl) rfl ?_
    refine ro_off (sb (rfl)) rfl rfl ?_
    refine ro_off (sb (rfl)) rfl rfl ?_
    refine ro_off (sb (rfl)) rfl rfl ?_
    refine ro_off (sb (rfl)) rfl rfl ?_
    refine ro_lt (r_pickt (v := .bool true) (rfl) rfl rfl) rfl ?_
    refine ro_lt (r_mv (v := .bool true) rfl) rfl ?_
    refine ro_off (sb (rfl)) rfl rfl ?_
    refine ro_off (sb (rfl)) rfl rfl ?_
    refine ro_off (sb (rfl)) rfl rfl ?_
    refine ro_off (sb (rfl)) rfl rfl ?_
    refine ro_offn rfl rfl ?_
    refine ro_offn rfl rfl ?_
    refine ro_offn rfl rfl ?_
    refine ro_off (sb (rfl)) rfl rfl ?_
    refine ro_lt (r_pickt (v := .bool true) (rfl) rfl rfl) rfl ?_
    refine ro_lt (r_as (v := .bool true) rfl) rfl ?_
    refine RO.nil (nx ?_)
    obtain rfl := Option.some.inj h
    refine ex_ret ?_
    exact ret1 (.inr rfl) rfl rfl (P1.of_flat HS hs rfl)
  refine ro_on (sb (congrArg (!·) (c13))) ?_
  refine ro_lt (r_fa (l4.sub HS.sub) fd72_1 rfl) rfl ?_
  refine ro_on (sb (congrArg (!·) (c13))) ?_
  refine ro_lt (r_ld ((l4.seg 1 1).sub HS.sub) sc25 rfl) rfl ?_
  replace h := bind_some h; obtain ⟨y14, e15, h⟩ := h
  refine ro_on (sb (congrArg (!·) (c13))) ?_
  refine ro_hy (o_cf (vs := [v_x1]) HS rfl (c_impl_areTruths (r_x1.sub HS.sub) e15) cf100 rfl) rfl ?_
  rintro _ w16 ⟨rfl, hb, HS⟩
  refine ro_on (sb (congrArg (!·) (c13))) ?_
  refine ro_lt (r_not rfl) rfl ?_
  refine ro_lt (r_pickf (v := .bool ((!y14))) (congrArg (!·) (c13)) rfl rfl) rfl ?_
  refine ro_lt (r_mv (v := .bool ((!y14))) rfl) rfl ?_
  replace h := ite_some h; rcases h with ⟨c17, h⟩ | ⟨c17, h⟩
  rotate_left
  · refine ro_off (sb (congrArg (!·) (bf c17))) rfl rfl ?_
    refine ro_off (sb (congrArg (!·) (bf c17))) rfl rfl ?_
    refine ro_off (sb (congrArg (!·) (bf c17))) rfl rfl ?_
    refine ro_off (sb (congrArg (!·) (bf c17))) rfl rfl ?_
    refine ro_lt (r_pickt (v := .bool true) (congrArg (!·) (bf c17)) rfl rfl) rfl ?_
    refine ro_lt (r_mv (v := .bool true) rfl) rfl ?_
    refine ro_off (sb (rfl)) rfl rfl ?_
    refine ro_off (sb (rfl)) rfl rfl ?_
    refine ro_off (sb (rfl)) rfl rfl ?_
    refine ro_off (sb (rfl)) rfl rfl ?_
    refine ro_offn rfl rfl ?_
    refine ro_offn rfl rfl ?_
    refine ro_offn rfl rfl ?_
    refine ro_off (sb (rfl)) rfl rfl ?_
    refine ro_lt (r_pickt (v := .bool true) (rfl) rfl rfl) rfl ?_
    refine ro_lt (r_as (v := .bool true) rfl) rfl ?_
    refine RO.nil (nx ?_)
    obtain rfl := Option.some.inj h
    refine ex_ret ?_
    exact ret1 (.inr rfl) rfl rfl (P1.of_flat HS hs rfl)
  refine ro_on (sb (congrArg (!·) (c17))) ?_
  refine ro_lt (r_fa (l4.sub HS.sub) fd72_2 rfl) rfl ?_
  refine ro_on (sb (congrArg (!·) (c17))) ?_
  refine ro_lt (r_ld ((l4.seg 2 1).sub HS.sub) sc3 rfl) rfl ?_
  replace h := bind_some h; obtain ⟨y18, e19, h⟩ := h
  refine ro_on (sb (congrArg (!·) (c17))) ?_
  refine ro_hy (o_cf (vs := [iv x.2.2.1]) HS rfl (c_impl_IsTruth e19) cf103 rfl) rfl ?_
  rintro _ w20 ⟨rfl, hb, HS⟩
  refine ro_on (sb (congrArg (!·) (c17))) ?_
  refine ro_lt (r_not rfl) rfl ?_
  refine ro_lt (r_pickf (v := .bool ((!y18))) (congrArg (!·) (c17)) rfl rfl) rfl ?_
  refine ro_lt (r_mv (v := .bool ((!y18))) rfl) rfl ?_
  replace h := ite_some h; rcases h with ⟨c21, h⟩ | ⟨c21, h⟩
  rotate_left
  · refine ro_off (sb (congrArg (!·) (bf c21))) rfl rfl ?_
    refine ro_off (sb (congrArg (!·) (bf c21))) rfl rfl ?_
    refine ro_off (sb (congrArg (!·) (bf c21))) rfl rfl ?_
    refine ro_off (sb (congrArg (!·) (bf c21))) rfl rfl ?_
    refine ro_offn rfl rfl ?_
    refine ro_offn rfl rfl ?_
    refine ro_offn rfl rfl ?_
    refine ro_off (sb (congrArg (!·) (bf c21))) rfl rfl ?_
    refine ro_lt (r_pickt (v := .bool true) (congrArg (!·) (bf c21)) rfl rfl) rfl ?_
    refine ro_lt (r_as (v := .bool true) rfl) rfl ?_
    refine RO.nil (nx ?_)
    obtain rfl := Option.some.inj h
    refine ex_ret ?_
    exact ret1 (.inr rfl) rfl rfl (P1.of_flat HS hs rfl)
  refine ro_on (sb (congrArg (!·) (c21))) ?_
  refine ro_lt (r_fa (l4.sub HS.sub) fd72_3 rfl) rfl ?_
  refine ro_on (sb (congrArg (!·) (c21))) ?_
  refine ro_lt (r_ld ((l4.seg 3 1).sub HS.sub) sc3 rfl) rfl ?_
  refine ro_on (sb (congrArg (!·) (c21))) ?_
  refine ro_lt (r_neq rfl rfl) rfl ?_
  refine ro_on (sb (congrArg (!·) (c21))) ?_
  refine ro_lt (r_mv (v := .bool ((!(decide (x.2.2.2 = 0))))) rfl) rfl ?_
  replace h := ite_some h; rcases h with ⟨c22, h⟩ | ⟨c22, h⟩
  · refine ro_off (sb (congrArg (!·) (decide_eq_true c22))) rfl rfl ?_
    refine ro_off (sb (congrArg (!·) (decide_eq_true c22))) rfl rfl ?_
    refine ro_off (sb (congrArg (!·) (decide_eq_true c22))) rfl rfl ?_
    refine ro_on (sb (congrArg (!·) (c21))) ?_
    refine ro_lt (r_pickf (v := .bool false) (congrArg (!·) (decide_eq_true c22)) rfl rfl) rfl ?_
    refine ro_lt (r_pickf (v := .bool false) (congrArg (!·) (c21)) rfl rfl) rfl ?_
    refine ro_lt (r_as (v := .bool false) rfl) rfl ?_
    refine RO.nil (nx ?_)
    obtain rfl := Option.some.inj h
    refine ex_ret ?_
    exact ret1 (.inr rfl) rfl rfl (P1.of_flat HS hs rfl)
  refine ro_on (sb (congrArg (!·) (decide_eq_false c22))) ?_
  refine ro_lt (r_fa (l4.sub HS.sub) fd72_3 rfl) rfl ?_
  refine ro_on (sb (congrArg (!·) (decide_eq_false c22))) ?_
  refine ro_lt (r_ld ((l4.seg 3 1).sub HS.sub) sc3 rfl) rfl ?_
  refine ro_on (sb (congrArg (!·) (decide_eq_false c22))) ?_
  refine ro_lt (r_neq rfl rfl) rfl ?_
  refine ro_on (sb (congrArg (!·) (c21))) ?_
  refine ro_lt (r_pickt (v := .bool ((!(decide (x.2.2.2 = 1))))) (congrArg (!·) (decide_eq_false c22)) rfl rfl) rfl ?_
  refine ro_lt (r_pickf (v := .bool ((!(decide (x.2.2.2 = 1))))) (congrArg (!·) (c21)) rfl rfl) rfl ?_
  refine ro_lt (r_as (v := .bool ((!(decide (x.2.2.2 = 1))))) rfl) rfl ?_
  refine RO.nil (nx ?_)
  obtain rfl := Option.some.inj h
  refine ex_ret ?_
  exact ret1 (.inr rfl) rfl rfl (P1.of_flat HS hs rfl)
theorem c_impl_IsStructure {w : World} {vars : Int} {s : (List (List Int × List Int × Int × Int)) × List Int} {v_s0 : Value} {v_s1 : Value} (r_s0 : Rd (.sl 72 (.prod (.sl 3 (.int .i64)) (.prod (.sl 3 (.int .i64)) (.prod (.int .i64) (.int .i64))))) (hp w) s.1 [v_s0]) (r_s1 : Rd (.sl 3 (.int .i64)) (hp w) s.2 [v_s1]) {r : Bool} (h : F_impl_IsStructure vars s = some r) : Calls Try.prog 47 [iv vars, .agg #[v_s0, v_s1]].toArray w (P1 .bool w r) := by
  unfold F_impl_IsStructure at h
  have HS := St.init w
  have hs := Sub.refl (hp w)
  refine calls_ex (n := 38) Try.func47 rfl Try.ntmps47 (Nat.le_of_ble_eq_true rfl) ?_
  refine ex_seq ?_
  refine ex_region ?_
  refine ro_hy (o_boxz HS (cs := [iv vars]) rfl rfl) rfl ?_
  rintro _ w2 ⟨g1, H5, rfl, q3, l4, hb, HS⟩
  replace r_s0 := r_s0.sub q3
  replace r_s1 := r_s1.sub q3
  replace hs := hs.trans q3
  refine ro_hy (o_boxz HS (cs := [v_s0, v_s1]) rfl rfl) rfl ?_
  rintro _ w7 ⟨g6, H10, rfl, q8, l9, hb, HS⟩
  replace r_s0 := r_s0.sub q8
  replace r_s1 := r_s1.sub q8
  replace l4 := l4.sub q8
  replace hs := hs.trans q8
  refine ro_lt (r_as (v := .bool false) rfl) rfl ?_
  refine RO.nil (nx ?_)
  refine ex_seq ?_
  refine ex_seq ?_
  refine ex_region ?_
  refine ro_lt (r_ld (l4.sub HS.sub) sc3 rfl) rfl ?_
  replace h := bind_some h; obtain ⟨y11, e12, h⟩ := h
  refine ro_hy (o_cf (vs := [iv vars, iv 1, iv 4]) HS rfl (c_impl_within e12) cf99 rfl) rfl ?_
  rintro _ w13 ⟨rfl, hb, HS⟩
  refine ro_lt (r_not rfl) rfl ?_
  refine ro_lt (r_mv (v := .bool ((!y11))) rfl) rfl ?_
  replace h := ite_some h; rcases h with ⟨c14, h⟩ | ⟨c14, h⟩
  rotate_left
  · refine ro_off (sb (congrArg (!·) (bf c14))) rfl rfl ?_
    refine ro_off (sb (congrArg (!·) (bf c14))) rfl rfl ?_
    refine ro_off (sb (congrArg (!·) (bf c14))) rfl rfl ?_
    refine ro_off (sb (congrArg (!·) (bf c14))) rfl rfl ?_
    refine ro_lt (r_pickt (v := .bool true) (congrArg (!·) (bf c14)) rfl rfl) rfl ?_
    refine ro_lt (r_mv (v := .bool true) rfl) rfl ?_
    refine ro_off (sb (rfl)) rfl rfl ?_
    refine ro_off (sb (rfl)) rfl rfl ?_
    refine ro_off (sb (rfl)) rfl rfl ?_
    refine ro_off (sb (rfl)) rfl rfl ?_
    refine ro_off (sb (rfl)) rfl rfl ?_
    refine ro_off (sb (rfl)) rfl rfl ?_
    refine ro_off (sb (rfl)) rfl rfl ?_
    refine ro_off (sb (rfl)) rfl rfl ?_
    refine ro_off (sb (rfl)) rfl rfl ?_
    refine ro_off (sb (rfl)) rfl rfl ?_
    refine ro_off (sb (rfl)) rfl rfl ?_
    refine ro_lt (r_pickt (v := .bool true) (rfl) rfl rfl) rfl ?_
    refine ro_lt (r_mv (v := .bool true) rfl) rfl ?_
    refine ro_off (sb (rfl)) rfl rfl ?_
    refine ro_off (sb (rfl)) rfl rfl ?_
    refine ro_off (sb (rfl)) rfl rfl ?_
    refine ro_off (sb (rfl)) rfl rfl ?_
    refine ro_lt (r_pickt (v := .bool true) (rfl) rfl rfl) rfl ?_
    refine RO.nil (nx ?_)
    refine ex_if_t rfl (rfl) ?_
    refine ex_seq ?_
    refine ex_region ?_
    refine ro_lt (r_as (v := .bool false) rfl) rfl ?_
    refine RO.nil (nx ?_)
    obtain rfl := Option.some.inj h
    refine ex_ret (tq_ret ?_)
    exact ret1 (.inr rfl) rfl rfl (P1.of_flat HS hs rfl)
  refine ro_on (sb (congrArg (!·) (c14))) ?_
  refine ro_lt (r_fa (l9.sub HS.sub) fd27_0 rfl) rfl ?_
  refine ro_on (sb (congrArg (!·) (c14))) ?_
  refine ro_lt (r_ld ((l9.seg 0 1).sub HS.sub) sc24 rfl) rfl ?_
  have b15 := (r_s0.sub HS.sub).big
  refine ro_on (sb (congrArg (!·) (c14))) ?_
  refine ro_lt (r_len (n := 4) (r_s0.sub HS.sub) sl24 rfl) rfl ?_
  refine ro_on (sb (congrArg (!·) (c14))) ?_
  refine ro_lt (r_gtr rfl rfl) rfl ?_
  refine ro_lt (r_pickf (v := .bool ((decide ((s.1.length : Int) > 10)))) (congrArg (!·) (c14)) rfl rfl) rfl ?_
  refine ro_lt (r_mv (v := .bool ((decide ((s.1.length : Int) > 10)))) rfl) rfl ?_
  replace h := ite_some h; rcases h with ⟨c16, h⟩ | ⟨c16, h⟩
  · refine ro_off (sb (decide_eq_true c16)) rfl rfl ?_
    refine ro_off (sb (decide_eq_true c16)) rfl rfl ?_
    refine ro_off (sb (decide_eq_true c16)) rfl rfl ?_
    refine ro_off (sb (decide_eq_true c16)) rfl rfl ?_
    refine ro_off (sb (decide_eq_true c16)) rfl rfl ?_
    refine ro_off (sb (decide_eq_true c16)) rfl rfl ?_
    refine ro_off (sb (decide_eq_true c16)) rfl rfl ?_
    refine ro_off (sb (decide_eq_true c16)) rfl rfl ?_
    refine ro_off (sb (decide_eq_true c16)) rfl rfl ?_
    refine ro_off (sb (decide_eq_true c16)) rfl rfl ?_
    refine ro_off (sb (decide_eq_true c16)) rfl rfl ?_
    refine ro_lt (r_pickt (v := .bool true) (decide_eq_true c16) rfl rfl) rfl ?_
    refine ro_lt (r_mv (v := .bool true) rfl) rfl ?_
    refine ro_off (sb (rfl)) rfl rfl ?_
    refine ro_off (sb (rfl)) rfl rfl ?_
    refine ro_off (sb (rfl)) rfl rfl ?_
    refine ro_off (sb (rfl)) rfl rfl ?_
    refine ro_lt (r_pickt (v := .bool true) (rfl) rfl rfl) rfl ?_
    refine RO.nil (nx ?_)
    refine ex_if_t rfl (rfl) ?_
    refine ex_seq ?_
    refine ex_region ?_
    refine ro_lt (r_as (v := .bool false) rfl) rfl ?_
    refine RO.nil (nx ?_)
    obtain rfl := Option.some.inj h
    refine ex_ret (tq_ret ?_)
    exact ret1 (.inr rfl) rfl rfl (P1.of_flat HS hs rfl)
  refine ro_on (sb (decide_eq_false c16)) ?_
  refine ro_lt (r_fa (l9.sub HS.sub) fd27_1 rfl) rfl ?_
  refine ro_on (sb (decide_eq_false c16)) ?_
  refine ro_lt (r_ld ((l9.seg 1 1).sub HS.sub) sc25 rfl) rfl ?_
  have b17 := (r_s1.sub HS.sub).big
  refine ro_on (sb (decide_eq_false c16)) ?_
  refine ro_lt (r_len (n := 1) (r_s1.sub HS.sub) sl25 rfl) rfl ?_
  refine ro_on (sb (decide_eq_false c16)) ?_
  refine ro_lt (r_fa (l9.sub HS.sub) fd27_0 rfl) rfl ?_
  refine ro_on (sb (decide_eq_false c16)) ?_
  refine ro_lt (r_ld ((l9.seg 0 1).sub HS.sub) sc24 rfl) rfl ?_
  refine ro_on (sb (decide_eq_false c16)) ?_
  refine ro_lt (r_len (n := 4) (r_s0.sub HS.sub) sl24 rfl) rfl ?_
  refine ro_on (sb (decide_eq_false c16)) ?_
  refine ro_lt (r_fa (l9.sub HS.sub) fd27_0 rfl) rfl ?_
  refine ro_on (sb (decide_eq_false c16)) ?_
  refine ro_lt (r_ld ((l9.seg 0 1).sub HS.sub) sc24 rfl) rfl ?_
  refine ro_on (sb (decide_eq_false c16)) ?_
  refine ro_lt (r_len (n := 4) (r_s0.sub HS.sub) sl24 rfl) rfl ?_
  refine ro_on (sb (decide_eq_false c16)) ?_
  refine ro_lt (r_mulw rfl rfl) rfl ?_
  refine ro_on (sb (decide_eq_false c16)) ?_
  refine ro_lt (r_neq rfl rfl) rfl ?_
  refine ro_lt (r_pickf (v := .bool ((!(decide ((s.2.length : Int) = wi ((s.1.length : Int) * (s.1.length : Int))))))) (decide_eq_false c16) rfl rfl) rfl ?_
  refine ro_lt (r_mv (v := .bool ((!(decide ((s.2.length : Int) = wi ((s.1.length : Int) * (s.1.length : Int))))))) rfl) rfl ?_
  replace h := ite_some h; rcases h with ⟨c18, h⟩ | ⟨c18, h⟩
  rotate_left
  · refine ro_off (sb (congrArg (!·) (decide_eq_false c18))) rfl rfl ?_
    refine ro_off (sb (congrArg (!·) (decide_eq_false c18))) rfl rfl ?_
    refine ro_off (sb (congrArg (!·) (decide_eq_false c18))) rfl rfl ?_
    refine ro_off (sb (congrArg (!·) (decide_eq_false c18))) rfl rfl ?_
    refine ro_lt (r_pickt (v := .bool true) (congrArg (!·) (decide_eq_false c18)) rfl rfl) rfl ?_
    refine RO.nil (nx ?_)
    refine ex_if_t rfl (rfl) ?_
    refine ex_seq ?_
    refine ex_region ?_
    refine ro_lt (r_as (v := .bool false) rfl) rfl ?_
    refine RO.nil (nx ?_)
    obtain rfl := Option.some.inj h
    refine ex_ret (tq_ret ?_)
    exact ret1 (.inr rfl) rfl rfl (P1.of_flat HS hs rfl)
  refine ro_on (sb (congrArg (!·) (decide_eq_true c18))) ?_
  refine ro_lt (r_fa (l9.sub HS.sub) fd27_1 rfl) rfl ?_
  refine ro_on (sb (congrArg (!·) (decide_eq_true c18))) ?_
  refine ro_lt (r_ld ((l9.seg 1 1).sub HS.sub) sc25 rfl) rfl ?_
  replace h := bind_some h; obtain ⟨y19, e20, h⟩ := h
  refine ro_on (sb (congrArg (!·) (decide_eq_true c18))) ?_
  refine ro_hy (o_cf (vs := [v_s1]) HS rfl (c_impl_areTruths (r_s1.sub HS.sub) e20) cf100 rfl) rfl ?_
  rintro _ w21 ⟨rfl, hb, HS⟩
  refine ro_on (sb (congrArg (!·) (decide_eq_true c18))) ?_
  refine ro_lt (r_not rfl) rfl ?_
  refine ro_lt (r_pickf (v := .bool ((!y19))) (congrArg (!·) (decide_eq_true c18)) rfl rfl) rfl ?_
  refine RO.nil (nx ?_)
  replace h := ite_some h; rcases h with ⟨c22, h⟩ | ⟨c22, h⟩
  rotate_left
  · refine ex_if_t rfl (congrArg (!·) (bf c22)) ?_
    refine ex_seq ?_
    refine ex_region ?_
    refine ro_lt (r_as (v := .bool false) rfl) rfl ?_
    refine RO.nil (nx ?_)
    obtain rfl := Option.some.inj h
    refine ex_ret (tq_ret ?_)
    exact ret1 (.inr rfl) rfl rfl (P1.of_flat HS hs rfl)
  refine ex_if_f rfl (congrArg (!·) (c22)) ?_
  refine ex_skip (nx ?_)
  refine ex_seq ?_
  refine ex_region ?_
  refine ro_lt (r_fa (l9.sub HS.sub) fd27_0 rfl) rfl ?_
  refine ro_lt (r_ld ((l9.seg 0 1).sub HS.sub) sc24 rfl) rfl ?_
  refine ro_lt (r_mkf (fs := []) (cs := [.pointer (some ⟨g1, 0, none⟩)]) rfl rfl) rfl ?_
  replace h := bind_some h; obtain ⟨y28, e29, h⟩ := h
  refine ro_hy (o_cf (vs := [v_s0, .func (.func 102) #[] #[.pointer (some ⟨g1, 0, none⟩)]]) HS rfl (c_slices_ContainsFunc_Node_Node (r_s0.sub HS.sub) ⟨102, [], [.pointer (some ⟨g1, 0, none⟩)], rfl, cf102, by intro w' x23 c24 r' hs' r25 hx; obtain ⟨_, _, rfl, r26, r27⟩ := rd_K72 r25; exact c_impl_IsStructure_1 r26 r27 (l4.sub (HS.sub.trans hs')) hx⟩ e29) cf101 rfl) rfl ?_
  rintro _ w30 ⟨rfl, hb, HS⟩
  refine ro_lt (r_not rfl) rfl ?_
  refine ro_lt (r_as (v := .bool ((!y28))) rfl) rfl ?_
  refine RO.nil (nx ?_)
  obtain rfl := Option.some.inj h
  refine ex_ret ?_
  exact ret1 (.inr rfl) rfl rfl (P1.of_flat HS hs rfl)
theorem c_impl_variables {w : World} {s : (List (List Int × List Int × Int × Int)) × List Int} {v_s0 : Value} {v_s1 : Value} (r_s0 : Rd (.sl 72 (.prod (.sl 3 (.int .i64)) (.prod (.sl 3 (.int .i64)) (.prod (.int .i64) (.int .i64))))) (hp w) s.1 [v_s0]) (r_s1 : Rd (.sl 3 (.int .i64)) (hp w) s.2 [v_s1]) {r : Int} (h : F_impl_variables s = some r) : Calls Try.prog 48 [.agg #[v_s0, v_s1]].toArray w (P1 (.int .i64) w r) := by
  unfold F_impl_variables at h
  have HS := St.init w
  have hs := Sub.refl (hp w)
  refine calls_ex (n := 13) Try.func48 rfl Try.ntmps48 (Nat.le_of_ble_eq_true rfl) ?_
  refine ex_seq ?_
  refine ex_region ?_
  refine ro_hy (o_boxz HS (cs := [v_s0, v_s1]) rfl rfl) rfl ?_
  rintro _ w2 ⟨g1, H5, rfl, q3, l4, hb, HS⟩
  replace r_s0 := r_s0.sub q3
  replace r_s1 := r_s1.sub q3
  replace hs := hs.trans q3
  refine ro_lt (r_as (v := iv 0) rfl) rfl ?_
  refine RO.nil (nx ?_)
  refine ex_seq ?_
  refine ex_seq ?_
  refine ex_region ?_
  refine ro_lt (r_fa (l4.sub HS.sub) fd27_0 rfl) rfl ?_
  refine ro_lt (r_ld ((l4.seg 0 1).sub HS.sub) sc24 rfl) rfl ?_
  have b6 := (r_s0.sub HS.sub).big
  refine ro_lt (r_len (n := 4) (r_s0.sub HS.sub) sl24 rfl) rfl ?_
  refine ro_lt (r_eql rfl rfl) rfl ?_
  refine RO.nil (nx ?_)
  replace h := ite_some h; rcases h with ⟨c7, h⟩ | ⟨c7, h⟩
  · refine ex_if_t rfl (decide_eq_true c7) ?_
    refine ex_seq ?_
    refine ex_region ?_
    refine ro_lt (r_as (v := iv 0) rfl) rfl ?_
    refine RO.nil (nx ?_)
    obtain rfl := Option.some.inj h
    refine ex_ret (tq_ret ?_)
    exact ret1 (.inr rfl) rfl rfl (P1.of_flat HS hs rfl)
  refine ex_if_f rfl (decide_eq_false c7) ?_
  refine ex_skip (nx ?_)
  refine ex_seq ?_
  refine ex_region ?_
  refine ro_lt (r_fa (l4.sub HS.sub) fd27_0 rfl) rfl ?_
  refine ro_lt (r_ld ((l4.seg 0 1).sub HS.sub) sc24 rfl) rfl ?_
  replace h := grd_some h; obtain ⟨g8, h⟩ := h
  obtain ⟨_, q9, l10⟩ := r_s0.idx (by omega) g8
  obtain ⟨v11, v13, rfl, r12, r14⟩ := rd_K72 q9
  refine ro_lt (r_ia (r_s0.sub HS.sub) sl24 (by omega) g8 rfl rfl) rfl ?_
  refine ro_lt (r_fa (l10.sub HS.sub) fd72_0 rfl) rfl ?_
  refine ro_lt (r_ld ((l10.seg 0 1).sub HS.sub) sc25 rfl) rfl ?_
  have b15 := (r12.sub HS.sub).big
  refine ro_lt (r_len (n := 1) (r12.sub HS.sub) sl25 rfl) rfl ?_
  refine ro_lt (r_as (v := iv ((((s.1.getD (0 : Int).toNat (([] : List Int), ([] : List Int), 0, 0)).1).length : Int))) rfl) rfl ?_
  refine RO.nil (nx ?_)
  obtain rfl := Option.some.inj h
  refine ex_ret ?_
  exact ret1 (.inr rfl) rfl rfl (P1.of_flat HS hs rfl)
theorem c_Node_own {w : World} {x : List Int × List Int × Int × Int} {v_x0 : Value} {v_x1 : Value} (r_x0 : Rd (.sl 3 (.int .i64)) (hp w) x.1 [v_x0]) (r_x1 : Rd (.sl 3 (.int .i64)) (hp w) x.2.1 [v_x1]) {r : (List Int × List Int × Int × Int)} (h : F_Node_own x = some r) : Calls Try.prog 93 [.agg #[v_x0, v_x1, iv x.2.2.1, iv x.2.2.2]].toArray w (P1 (.prod (.sl 3 (.int .i64)) (.prod (.sl 3 (.int .i64)) (.prod (.int .i64) (.int .i64)))) w r) := by
  unfold F_Node_own at h
  have HS := St.init w
  have hs := Sub.refl (hp w)
  refine calls_ex (n := 14) Try.func93 rfl Try.ntmps93 (Nat.le_of_ble_eq_true rfl) ?_
  refine ex_seq ?_
  refine ex_region ?_
  refine ro_hy (o_boxz HS (cs := [v_x0, v_x1, iv x.2.2.1, iv x.2.2.2]) rfl rfl) rfl ?_
  rintro _ w2 ⟨g1, H5, rfl, q3, l4, hb, HS⟩
  replace r_x0 := r_x0.sub q3
  replace r_x1 := r_x1.sub q3
  replace hs := hs.trans q3
  refine ro_hy (o_alloc HS (cs := [.slice none 0 0, .slice none 0 0, iv 0, iv 0]) ze72 rfl) rfl ?_
  rintro _ w7 ⟨g6, rfl, hb, HS⟩
  refine RO.nil (nx ?_)
  refine ex_seq ?_
  refine ex_dr (Mm H5 []) (fun _ => True) [0, 1, 3, 0, 8, 31, 0, 64, 0, 256, 1023, 2047] [2, 5, 11] (.op 0 (.op 1 (.op 3 (.op 4 (.op 6 (.op 7 (.op 8 (.op 9 (.op 2 (.op 5 (.op 10 (.op 11 .nil)))))))))))) mix (by kernel_rfl) (by kernel_rfl) ?_
  intro w9 hw hb; have HS := HS.ext hb; clear hw hb
  refine RT.lt rfl rfl rfl rfl (fun w' k => r_fa (l4.sub HS.sub) fd72_0 rfl) ?_
  refine RT.lt rfl rfl rfl rfl (fun w' k => r_ld ((l4.seg 0 1).kp HS.sub k.kp (mh rfl)) sc25 rfl) ?_
  refine RT.lt rfl rfl rfl rfl (fun w' k => r_fa (l4.sub HS.sub) fd72_1 rfl) ?_
  refine RT.lt rfl rfl rfl rfl (fun w' k => r_ld ((l4.seg 1 1).kp HS.sub k.kp (mh rfl)) sc25 rfl) ?_
  refine RT.lt rfl rfl rfl rfl (fun w' k => r_fa (l4.sub HS.sub) fd72_2 rfl) ?_
  refine RT.lt rfl rfl rfl rfl (fun w' k => r_ld ((l4.seg 2 1).kp HS.sub k.kp (mh rfl)) sc3 rfl) ?_
  refine RT.lt rfl rfl rfl rfl (fun w' k => r_fa (l4.sub HS.sub) fd72_3 rfl) ?_
  refine RT.lt rfl rfl rfl rfl (fun w' k => r_ld ((l4.seg 3 1).kp HS.sub k.kp (mh rfl)) sc3 rfl) ?_
  replace h := bind_some h; obtain ⟨y10, e11, h⟩ := h
  refine RT.hy rfl rfl rfl rfl rfl (o_c1 (vs := [v_x0]) HS (c_slices_Clone_int_int (r_x0.sub HS.sub) e11) cf104 rfl) (fun _ _ ⟨_, _, hb, _⟩ => km_below hb (fun _ => trivial)) ?_
  rintro _ w12 ⟨cs13, rfl, hb, HS⟩
  obtain ⟨v15, rfl, -⟩ := (HS.rd 0 rfl).one
  replace h := bind_some h; obtain ⟨y16, e17, h⟩ := h
  refine RT.hy rfl rfl rfl rfl rfl (o_c1 (vs := [v_x1]) HS (c_slices_Clone_int_int (r_x1.sub HS.sub) e17) cf104 rfl) (fun _ _ ⟨_, _, hb, _⟩ => km_below hb (fun _ => trivial)) ?_
  rintro _ w18 ⟨cs19, rfl, hb, HS⟩
  obtain ⟨v21, rfl, -⟩ := (HS.rd 0 rfl).one
  refine RT.lt rfl rfl rfl rfl (fun w' k => r_bld (cells := [v15, v21, iv x.2.2.1, iv x.2.2.2]) bz72 rfl (vp (HS.rd 1 rfl).vc (vp (HS.rd 0 rfl).vc (vp rfl (vp rfl vp0)))) rfl) ?_
  refine RT.hy rfl rfl rfl rfl rfl (o_str (off := 0) (vs := [v15, v21, iv x.2.2.1, iv x.2.2.2]) (l' := [v15, v21, iv x.2.2.1, iv x.2.2.2]) (HS.sel (G := [_, _, _]) [2] 0 rfl) rfl rfl rfl st72 rfl rfl (pl (HS.rd 1 rfl).pl (pl (HS.rd 0 rfl).pl (pl rfl (pl rfl pl0)))) rfl) (fun _ _ ⟨_, hk, HS2⟩ => km_st HS (Sub.refl _) (hk (fun b => b = g6) rfl) (fun b hb => hb ▸ bx_none (HS.sel (G := [_, _, _]) [2] 0 rfl)) (by kernel_rfl) (fun _ => trivial)) ?_
  rintro _ w22 ⟨rfl, hk, HS⟩
  refine RT.nil (nx ?_)
  obtain rfl := Option.some.inj h
  refine ex_ret ?_
  exact ret1 (.inr rfl) rfl (rv_box HS (i := 0) rfl rfl ag72 rfl) (P1.of (((((((HS.add (t := (.int .i64)) (x := x.2.2.2) rfl rfl).add (t := (.int .i64)) (x := x.2.2.1) rfl rfl).join).sel (G := [_, _, _, _]) [2] 0 rfl).join).sel (G := [_, _, _]) [2] 0 rfl).join) hs)
theorem c_Str_own {w : World} {s : (List (List Int × List Int × Int × Int)) × List Int} {v_s0 : Value} {v_s1 : Value} (r_s0 : Rd (.sl 72 (.prod (.sl 3 (.int .i64)) (.prod (.sl 3 (.int .i64)) (.prod (.int .i64) (.int .i64))))) (hp w) s.1 [v_s0]) (r_s1 : Rd (.sl 3 (.int .i64)) (hp w) s.2 [v_s1]) {r : ((List (List Int × List Int × Int × Int)) × List Int)} (h : F_Str_own s = some r) : Calls Try.prog 49 [.agg #[v_s0, v_s1]].toArray w (P1 (.prod (.sl 72 (.prod (.sl 3 (.int .i64)) (.prod (.sl 3 (.int .i64)) (.prod (.int .i64) (.int .i64))))) (.sl 3 (.int .i64))) w r) := by
  unfold F_Str_own at h
  have HS := St.init w
  have hs := Sub.refl (hp w)
  refine calls_ex (n := 26) Try.func49 rfl Try.ntmps49 (Nat.le_of_ble_eq_true rfl) ?_
  refine ex_seq ?_
  refine ex_region ?_
  refine ro_hy (o_boxz HS (cs := [v_s0, v_s1]) rfl rfl) rfl ?_
  rintro _ w2 ⟨g1, H5, rfl, q3, l4, hb, HS⟩
  replace r_s0 := r_s0.sub q3
  replace r_s1 := r_s1.sub q3
  replace hs := hs.trans q3
  refine ro_hy (o_alloc HS (cs := [.slice none 0 0, .slice none 0 0]) ze27 rfl) rfl ?_
  rintro _ w7 ⟨g6, rfl, hb, HS⟩
  refine RO.nil (nx ?_)
  refine ex_seq ?_
  refine ex_region ?_
  refine ro_lt (r_fa (l4.sub HS.sub) fd27_1 rfl) rfl ?_
  refine ro_lt (r_ld ((l4.seg 1 1).sub HS.sub) sc25 rfl) rfl ?_
  replace h := bind_some h; obtain ⟨y9, e10, h⟩ := h
  refine ro_hy (o_c1 (vs := [v_s1]) HS (c_slices_Clone_int_int (r_s1.sub HS.sub) e10) cf104 rfl) rfl ?_
  rintro _ w11 ⟨cs12, rfl, hb, HS⟩
  obtain ⟨v14, rfl, -⟩ := (HS.rd 0 rfl).one
  refine ro_lt (r_bld (cells := [.slice none 0 0, v14]) bz27 rfl (vp (HS.rd 0 rfl).vc vp0) rfl) rfl ?_
  refine ro_hy (o_alloc HS (cs := [.slice none 0 0, .slice none 0 0]) ze27 rfl) rfl ?_
  rintro _ w16 ⟨g15, rfl, hb, HS⟩
  refine ro_hy (o_str (off := 0) (vs := [.slice none 0 0, v14]) (l' := [.slice none 0 0, v14]) HS rfl rfl rfl st27 rfl rfl (pl rfl (pl (HS.rd 1 rfl).pl pl0)) rfl) rfl ?_
  rintro _ w18 ⟨rfl, hk, HS⟩
  refine RO.nil (nx ?_)
  refine ex_seq ?_
  refine ex_seq ?_
  refine ex_region ?_
  refine ro_lt (r_fa (l4.sub HS.sub) fd27_0 rfl) rfl ?_
  refine ro_lt (r_ld ((l4.seg 0 1).sub HS.sub) sc24 rfl) rfl ?_
  have b20 := (r_s0.sub HS.sub).big
  refine ro_lt (r_len (n := 4) (r_s0.sub HS.sub) sl24 rfl) rfl ?_
  refine ro_lt (r_mv (v := iv 0) rfl) rfl ?_
  refine RO.nil (nx ?_)
  replace h := bind_some h; obtain ⟨y71, e72, h⟩ := h
  refine ex_lbo (fun (st : (List (List Int × List Int × Int × Int)) × Int) s' w' => ∃ v31 : Value, Has s' [(2, .pointer (some ⟨g6, 0, none⟩)), (3, .pointer (some ⟨g15, 0, none⟩)), (11, v_s0), (12, iv ((s.1.length : Int))), (13, iv st.2)] ∧ St w H5 w' [.ow (.sl 72 (.prod (.sl 3 (.int .i64)) (.prod (.sl 3 (.int .i64)) (.prod (.int .i64) (.int .i64))))) st.1 [v31], .bx g15 27 [v31, v14], .ow (.sl 3 (.int .i64)) y9 [v14], .bx g6 27 [.slice none 0 0, .slice none 0 0]]) e72 ⟨.slice none 0 0, ⟨rfl, rfl, rfl, rfl, rfl, trivial⟩, (HS.nil 72 (.prod (.sl 3 (.int .i64)) (.prod (.sl 3 (.int .i64)) (.prod (.int .i64) (.int .i64)))))⟩ ?_ ?_
  · rintro ⟨i29, i32⟩ c' s' w33 ⟨v31, hs_, HS⟩ h
    rw [has_put hs_]; clear hs_
    try dsimp only at HS
    replace h : F_Str_own_b1 s i29 i32 = some c' := h
    unfold F_Str_own_b1 at h
    refine ex_seq ?_
    refine ex_region ?_
    refine ro_lt (r_lss rfl rfl) rfl ?_
    refine RO.nil (nx ?_)
    refine ex_seq ?_
    replace h := ite_some h; rcases h with ⟨c34, h⟩ | ⟨c34, h⟩
    rotate_left
    · refine ex_if_f rfl (decide_eq_false c34) ?_
      refine ex_exit (tq_exit ?_)
      obtain rfl := Option.some.inj h
      exact lq_out ⟨v31, ⟨rfl, rfl, rfl, rfl, rfl, trivial⟩, HS⟩
    refine ex_if_t rfl (decide_eq_true c34) ?_
    refine ex_skip (nx ?_)
    refine ex_seq ?_
    refine ex_block ?_
    refine ex_seq ?_
    refine ex_region ?_
    replace h := grd_some h; obtain ⟨g35, h⟩ := h
    obtain ⟨_, q36, l37⟩ := r_s0.idx g35.1 g35.2
    obtain ⟨v38, v40, rfl, r39, r41⟩ := rd_K72 q36
    refine ro_lt (r_ia (r_s0.sub HS.sub) sl24 g35.1 g35.2 rfl rfl) rfl ?_
    refine ro_lt (r_lda (l37.sub HS.sub) ag72 rfl rfl) rfl ?_
    refine ro_hy (o_alloc HS (cs := [.slice none 0 0, .slice none 0 0, iv 0, iv 0]) ze72 rfl) rfl ?_
    rintro _ w43 ⟨g42, rfl, hb, HS⟩
    refine ro_hy (o_str (off := 0) (vs := [v38, v40, iv ((((s.1.getD i32.toNat (([] : List Int), ([] : List Int), 0, 0)).2).2).1), iv ((((s.1.getD i32.toNat (([] : List Int), ([] : List Int), 0, 0)).2).2).2)]) (l' := [v38, v40, iv ((((s.1.getD i32.toNat (([] : List Int), ([] : List Int), 0, 0)).2).2).1), iv ((((s.1.getD i32.toNat (([] : List Int), ([] : List Int), 0, 0)).2).2).2)]) HS rfl rfl rfl st72 rfl rfl (pl (r39.sub HS.sub).pl (pl (r41.sub HS.sub).pl (pl rfl (pl rfl pl0)))) rfl) rfl ?_
    rintro _ w45 ⟨rfl, hk, HS⟩
    refine RO.nil (nx ?_)
    refine ex_dr (Mm H5 [1, 2]) (fun _ => True) [0, 1, 0, 4, 12, 31, 63, 127] [3, 4, 5, 7] (.op 0 (.op 1 (.op 2 (.op 3 (.op 4 (.op 5 (.op 6 (.op 7 .nil)))))))) mix (by kernel_rfl) (by kernel_rfl) ?_
    intro w47 hw hb; have HS := HS.ext hb; clear hw hb
    refine RT.lt rfl rfl rfl rfl (fun w' k => r_fa (HS.boxAt 2 rfl) fd27_0 rfl) ?_
    refine RT.lt rfl rfl rfl rfl (fun w' k => r_ld (((HS.boxAt 2 rfl).seg 0 1).k0 (Sub.refl _) (k.kp.none rfl)) sc24 rfl) ?_
    refine RT.lt rfl rfl rfl rfl (fun w' k => r_lda ((HS.boxAt 0 rfl).k0 (Sub.refl _) (k.kp.none rfl)) ag72 rfl rfl) ?_
    replace h := bind_some h; obtain ⟨y48, e49, h⟩ := h
    refine RT.hy rfl rfl rfl rfl rfl (o_c1 (vs := [.agg #[v38, v40, iv ((((s.1.getD i32.toNat (([] : List Int), ([] : List Int), 0, 0)).2).2).1), iv ((((s.1.getD i32.toNat (([] : List Int), ([] : List Int), 0, 0)).2).2).2)]]) HS (c_Node_own (r39.sub HS.sub) (r41.sub HS.sub) e49) cf93 rfl) (fun _ _ ⟨_, _, hb, _⟩ => km_below hb (fun _ => trivial)) ?_
    rintro _ w50 ⟨cs51, rfl, hb, HS⟩
    replace HS := st_K72 HS
    obtain ⟨v53, v55, rfl, HS⟩ := HS
    refine RT.hy rfl rfl rfl rfl rfl (o_bsv HS (cs := [v53, v55, iv y48.2.2.1, iv y48.2.2.2]) sl24 zz72 (vs := [.agg #[v53, v55, iv y48.2.2.1, iv y48.2.2.2]]) rfl rfl (vc rfl vc0) rfl rfl (by decide)) (fun _ _ ⟨_, _, hb, _⟩ => km_below hb (fun _ => trivial)) ?_
    rintro _ w57 ⟨g56, rfl, hb, HS⟩
    replace h := grd_some h; obtain ⟨g59, h⟩ := h
    refine RT.hy rfl rfl rfl rfl rfl (o_app1 ((((((((HS.add (t := (.int .i64)) (x := y48.2.2.2) rfl rfl).add (t := (.int .i64)) (x := y48.2.2.1) rfl rfl).join).sel (G := [_, _, _, _, _, _, _, _, _]) [3] 0 rfl).join).sel (G := [_, _, _, _, _, _, _, _]) [2] 0 rfl).join).sel (G := [_, _, _, _, _, _, _]) [3] 0 rfl) rfl rfl sl24 zz72 g59) (fun _ _ ⟨HS2, hk⟩ => km_st HS (Sub.refl _) (hk _ fun _ h => h) (own_none ((((((((HS.add (t := (.int .i64)) (x := y48.2.2.2) rfl rfl).add (t := (.int .i64)) (x := y48.2.2.1) rfl rfl).join).sel (G := [_, _, _, _, _, _, _, _, _]) [3] 0 rfl).join).sel (G := [_, _, _, _, _, _, _, _]) [2] 0 rfl).join).sel (G := [_, _, _, _, _, _, _]) [3] 0 rfl)) (by kernel_rfl) (fun _ => trivial)) ?_
    rintro v66 w67 ⟨HS, hk⟩
    refine RT.lt rfl rfl rfl rfl (fun w' k => r_fa (HS.boxAt 2 rfl) fd27_0 rfl) ?_
    refine RT.hy rfl rfl rfl rfl rfl (o_str (off := 0) (vs := [v66]) (l' := [v66, v14]) (HS.sel (G := [_, _, _, _, _]) [2] 0 rfl) rfl rfl (HS.rd 0 rfl).vc st24 rfl rfl (pl (HS.rd 0 rfl).pl pl0) rfl) (fun _ _ ⟨_, hk, HS2⟩ => km_st HS (Sub.refl _) (hk (fun b => b = g15) rfl) (fun b hb => hb ▸ bx_none (HS.sel (G := [_, _, _, _, _]) [2] 0 rfl)) (by kernel_rfl) (fun _ => trivial)) ?_
    rintro _ w69 ⟨rfl, hk, HS⟩
    refine RT.nil (blk_nx (nx ?_))
    refine ex_region ?_
    refine ro_lt (r_addw rfl rfl) rfl ?_
    refine ro_lt (r_mv (v := iv (wi (i32 + 1))) rfl) rfl ?_
    refine RO.nil ?_
    obtain rfl := Option.some.inj h
    exact lq_go ⟨v66, ⟨rfl, rfl, rfl, rfl, rfl, trivial⟩, (HS.sel (G := [_, _, _, _]) [1, 0, 1, 1] 1 rfl)⟩
  rintro s' w74 ⟨v31, hs_, HS⟩
  rw [has_put hs_]; clear hs_
  refine (nx ?_)
  refine ex_seq ?_
  refine ex_region ?_
  refine ro_lt (r_lda (HS.boxAt 1 rfl) ag27 rfl rfl) rfl ?_
  refine ro_hy (o_str (off := 0) (vs := [v31, v14]) (l' := [v31, v14]) (HS.sel (G := [_, _, _, _]) [3] 0 rfl) rfl rfl rfl st27 rfl rfl (pl (HS.rd 0 rfl).pl (pl (HS.rd 2 rfl).pl pl0)) rfl) rfl ?_
  rintro _ w76 ⟨rfl, hk, HS⟩
  refine RO.nil (nx ?_)
  obtain rfl := Option.some.inj h
  refine ex_ret ?_
  exact ret1 (.inr rfl) rfl (rv_box HS (i := 0) rfl rfl ag27 rfl) (P1.of (((HS.sel (G := [_, _, _, _]) [3] 0 rfl).sel (G := [_, _, _, _]) [2] 0 rfl).join) hs)
theorem c_Str_isNode {w : World} {s : (List (List Int × List Int × Int × Int)) × List Int} {v_s0 : Value} {v_s1 : Value} {i : Int} (r_s0 : Rd (.sl 72 (.prod (.sl 3 (.int .i64)) (.prod (.sl 3 (.int .i64)) (.prod (.int .i64) (.int .i64))))) (hp w) s.1 [v_s0]) (r_s1 : Rd (.sl 3 (.int .i64)) (hp w) s.2 [v_s1]) {r : Bool} (h : F_Str_isNode s i = some r) : Calls Try.prog 105 [.agg #[v_s0, v_s1], iv i].toArray w (P1 .bool w r) := by
  unfold F_Str_isNode at h
  have HS := St.init w
  have hs := Sub.refl (hp w)
  refine calls_ex (n := 11) Try.func105 rfl Try.ntmps105 (Nat.le_of_ble_eq_true rfl) ?_
  refine ex_seq ?_
  refine ex_region ?_
  refine ro_hy (o_boxz HS (cs := [v_s0, v_s1]) rfl rfl) rfl ?_
  rintro _ w2 ⟨g1, H5, rfl, q3, l4, hb, HS⟩
  replace r_s0 := r_s0.sub q3
  replace r_s1 := r_s1.sub q3
  replace hs := hs.trans q3
  refine ro_lt (r_as (v := .bool false) rfl) rfl ?_
  refine RO.nil (nx ?_)
  refine ex_seq ?_
  refine ex_region ?_
  refine ro_lt (r_mv (v := iv i) rfl) rfl ?_
  refine ro_lt (r_fa (l4.sub HS.sub) fd27_0 rfl) rfl ?_
  refine ro_lt (r_ld ((l4.seg 0 1).sub HS.sub) sc24 rfl) rfl ?_
  have b6 := (r_s0.sub HS.sub).big
  refine ro_lt (r_len (n := 4) (r_s0.sub HS.sub) sl24 rfl) rfl ?_
  refine ro_lt (r_sub rfl rfl (by omega)) rfl ?_
  replace h := bind_some h; obtain ⟨y7, e8, h⟩ := h
  refine ro_hy (o_cf (vs := [iv i, iv 0, iv ((s.1.length : Int) - 1)]) HS rfl (c_impl_within e8) cf99 rfl) rfl ?_
  rintro _ w9 ⟨rfl, hb, HS⟩
  refine ro_lt (r_as (v := .bool y7) rfl) rfl ?_
  refine RO.nil (nx ?_)
  obtain rfl := Option.some.inj h
  refine ex_ret ?_
  exact ret1 (.inr rfl) rfl rfl (P1.of_flat HS hs rfl)
theorem c_impl_CountPredicates {w : World} {s : (List (List Int × List Int × Int × Int)) × List Int} {v_s0 : Value} {v_s1 : Value} (r_s0 : Rd (.sl 72 (.prod (.sl 3 (.int .i64)) (.prod (.sl 3 (.int .i64)) (.prod (.int .i64) (.int .i64))))) (hp w) s.1 [v_s0]) (r_s1 : Rd (.sl 3 (.int .i64)) (hp w) s.2 [v_s1]) {r : Int} (h : F_impl_CountPredicates s = some r) : Calls Try.prog 141 [.agg #[v_s0, v_s1]].toArray w (P1 (.int .i64) w r) := by
  unfold F_impl_CountPredicates at h
  have HS := St.init w
  have hs := Sub.refl (hp w)
  refine calls_ex (n := 11) Try.func141 rfl Try.ntmps141 (Nat.le_of_ble_eq_true rfl) ?_
  refine ex_seq ?_
  refine ex_region ?_
  refine ro_hy (o_boxz HS (cs := [v_s0, v_s1]) rfl rfl) rfl ?_
  rintro _ w2 ⟨g1, H5, rfl, q3, l4, hb, HS⟩
  replace r_s0 := r_s0.sub q3
  replace r_s1 := r_s1.sub q3
  replace hs := hs.trans q3
  refine ro_lt (r_as (v := iv 0) rfl) rfl ?_
  refine RO.nil (nx ?_)
  refine ex_seq ?_
  refine ex_seq ?_
  refine ex_region ?_
  refine ro_lt (r_fa (l4.sub HS.sub) fd27_0 rfl) rfl ?_
  refine ro_lt (r_ld ((l4.seg 0 1).sub HS.sub) sc24 rfl) rfl ?_
  have b6 := (r_s0.sub HS.sub).big
  refine ro_lt (r_len (n := 4) (r_s0.sub HS.sub) sl24 rfl) rfl ?_
  refine ro_lt (r_eql rfl rfl) rfl ?_
  refine RO.nil (nx ?_)
  replace h := ite_some h; rcases h with ⟨c7, h⟩ | ⟨c7, h⟩
  · refine ex_if_t rfl (decide_eq_true c7) ?_
    refine ex_seq ?_
    refine ex_region ?_
    refine ro_lt (r_as (v := iv 0) rfl) rfl ?_
    refine RO.nil (nx ?_)
    obtain rfl := Option.some.inj h
    refine ex_ret (tq_ret ?_)
    exact ret1 (.inr rfl) rfl rfl (P1.of_flat HS hs rfl)
  refine ex_if_f rfl (decide_eq_false c7) ?_
  refine ex_skip (nx ?_)
  refine ex_seq ?_
  refine ex_region ?_
  refine ro_lt (r_lda (l4.sub HS.sub) ag27 rfl rfl) rfl ?_
  replace h := bind_some h; obtain ⟨y8, e9, h⟩ := h
  refine ro_hy (o_cf (vs := [.agg #[v_s0, v_s1]]) HS rfl (c_impl_variables (r_s0.sub HS.sub) (r_s1.sub HS.sub) e9) cf48 rfl) rfl ?_
  rintro _ w10 ⟨rfl, hb, HS⟩
  refine ro_lt (r_mulw rfl rfl) rfl ?_
  refine ro_lt (r_addw rfl rfl) rfl ?_
  refine ro_lt (r_as (v := iv (wi ((wi (2 * y8)) + 1))) rfl) rfl ?_
  refine RO.nil (nx ?_)
  obtain rfl := Option.some.inj h
  refine ex_ret ?_
  exact ret1 (.inr rfl) rfl rfl (P1.of_flat HS hs rfl)
theorem c_impl_TruthText {w : World} {a : Int} {r : ByteArray} (h : F_impl_TruthText a = some r) : Calls Try.prog 142 [iv a].toArray w (P1 .str w r) := by
  unfold F_impl_TruthText at h
  have HS := St.init w
  have hs := Sub.refl (hp w)
  refine calls_ex (n := 10) Try.func142 rfl Try.ntmps142 (Nat.le_of_ble_eq_true rfl) ?_
  refine ex_seq ?_
  refine ex_region ?_
  refine ro_lt (r_as (v := .string ((⟨#[]⟩ : ByteArray))) rfl) rfl ?_
  refine RO.nil (nx ?_)
  refine ex_seq ?_
  refine ex_seq ?_
  refine ex_region ?_
  refine ro_lt (r_mv (v := iv a) rfl) rfl ?_
  replace h := bind_some h; obtain ⟨y1, e2, h⟩ := h
  refine ro_hy (o_cf (vs := [iv a]) HS rfl (c_impl_IsTruth e2) cf103 rfl) rfl ?_
  rintro _ w3 ⟨rfl, hb, HS⟩
  refine ro_lt (r_not rfl) rfl ?_
  refine RO.nil (nx ?_)
  replace h := ite_some h; rcases h with ⟨c4, h⟩ | ⟨c4, h⟩
  rotate_left
  · refine ex_if_t rfl (congrArg (!·) (bf c4)) ?_
    refine ex_seq ?_
    refine ex_region ?_
    refine ro_lt (r_as (v := .string ((⟨#[]⟩ : ByteArray))) rfl) rfl ?_
    refine RO.nil (nx ?_)
    obtain rfl := Option.some.inj h
    refine ex_ret (tq_ret ?_)
    exact ret1 (.inr rfl) rfl rfl (P1.of_flat HS hs rfl)
  refine ex_if_f rfl (congrArg (!·) (c4)) ?_
  refine ex_skip (nx ?_)
  refine ex_seq ?_
  refine ex_region ?_
  refine ro_lt (r_mv (v := iv a) rfl) rfl ?_
  refine ro_lt (r_mv (v := iv a) rfl) rfl ?_
  refine ro_lt (r_addw rfl rfl) rfl ?_
  replace h := grd_some h; obtain ⟨g5, h⟩ := h
  refine ro_lt (r_sslice (p := (⟨#[48, 63, 49]⟩ : ByteArray)) str9 g5 rfl rfl rfl) rfl ?_
  refine ro_lt (r_as (v := .string (((⟨#[48, 63, 49]⟩ : ByteArray)).extract a.toNat (wi (a + 1)).toNat)) rfl) rfl ?_
  refine RO.nil (nx ?_)
  obtain rfl := Option.some.inj h
  refine ex_ret ?_
  exact ret1 (.inr rfl) rfl rfl (P1.of_flat HS hs rfl)
end Go.Proofs.Ytpfibofoeblapaa
