/- Walks, printed. -/
import Derived.Test.YtpfibofoeblapaaCB1
set_option linter.unusedVariables false
set_option linter.unusedSimpArgs false
namespace Go.Proofs.Ytpfibofoeblapaa
open Go Go.RowKit
set_option maxRecDepth 20000
set_option maxHeartbeats 4000000
theorem c_impl_PredicateAt {w : World} {s : (List (List Int × List Int × Int × Int)) × List Int} {v_s0 : Value} {v_s1 : Value} {k : Int} {i : Int} (r_s0 : Rd (.sl 72 (.prod (.sl 3 (.int .i64)) (.prod (.sl 3 (.int .i64)) (.prod (.int .i64) (.int .i64))))) (hp w) s.1 [v_s0]) (r_s1 : Rd (.sl 3 (.int .i64)) (hp w) s.2 [v_s1]) {r : Int} (h : F_impl_PredicateAt s k i = some r) : Calls Try.prog 143 [.agg #[v_s0, v_s1], iv k, iv i].toArray w (P1 (.int .i64) w r) := by
  unfold F_impl_PredicateAt at h
  have HS := St.init w
  have hs := Sub.refl (hp w)
  refine calls_ex (n := 57) Try.func143 rfl Try.ntmps143 (Nat.le_of_ble_eq_true rfl) ?_
  refine ex_seq ?_
  refine ex_region ?_
  refine ro_hy (o_boxz HS (cs := [v_s0, v_s1]) rfl rfl) rfl ?_
  rintro _ w2 ⟨g1, H5, rfl, q3, l4, hb, HS⟩
  replace r_s0 := r_s0.sub q3
  replace r_s1 := r_s1.sub q3
  replace hs := hs.trans q3
  refine ro_lt (r_as (v := iv 0) rfl) rfl ?_
  refine RO.nil (nx ?_)
  refine ex_seq ?_
  refine ex_region ?_
  refine ro_lt (r_lda (l4.sub HS.sub) ag27 rfl rfl) rfl ?_
  replace h := bind_some h; obtain ⟨y6, e7, h⟩ := h
  refine ro_hy (o_cf (vs := [.agg #[v_s0, v_s1]]) HS rfl (c_impl_variables (r_s0.sub HS.sub) (r_s1.sub HS.sub) e7) cf48 rfl) rfl ?_
  rintro _ w8 ⟨rfl, hb, HS⟩
  refine ro_lt (r_as (v := iv y6) rfl) rfl ?_
  refine RO.nil (nx ?_)
  refine ex_seq ?_
  refine ex_seq ?_
  refine ex_region ?_
  refine ro_lt (r_lda (l4.sub HS.sub) ag27 rfl rfl) rfl ?_
  refine ro_lt (r_mv (v := iv i) rfl) rfl ?_
  replace h := bind_some h; obtain ⟨y9, e10, h⟩ := h
  refine ro_hy (o_cf (vs := [.agg #[v_s0, v_s1], iv i]) HS rfl (c_Str_isNode (r_s0.sub HS.sub) (r_s1.sub HS.sub) e10) cf105 rfl) rfl ?_
  rintro _ w11 ⟨rfl, hb, HS⟩
  refine ro_lt (r_not rfl) rfl ?_
  refine RO.nil (nx ?_)
  replace h := ite_some h; rcases h with ⟨c12, h⟩ | ⟨c12, h⟩
  rotate_left
  · refine ex_if_t rfl (congrArg (!·) (bf c12)) ?_
    refine ex_seq ?_
    refine ex_region ?_
    refine ro_lt (r_as (v := iv 1) rfl) rfl ?_
    refine RO.nil (nx ?_)
    obtain rfl := Option.some.inj h
    refine ex_ret (tq_ret ?_)
    exact ret1 (.inr rfl) rfl rfl (P1.of_flat HS hs rfl)
  refine ex_if_f rfl (congrArg (!·) (c12)) ?_
  refine ex_skip (nx ?_)
  refine ex_seq ?_
  refine ex_region ?_
  refine ro_lt (r_as (v := .slice none 0 0) rfl) rfl ?_
  refine RO.nil (nx ?_)
  refine ex_seq ?_
  refine ex_seq ?_
  refine ex_region ?_
  refine ro_lt (r_fa (l4.sub HS.sub) fd27_0 rfl) rfl ?_
  refine ro_lt (r_ld ((l4.seg 0 1).sub HS.sub) sc24 rfl) rfl ?_
  refine ro_lt (r_mv (v := iv i) rfl) rfl ?_
  replace h := grd_some h; obtain ⟨g13, h⟩ := h
  obtain ⟨_, q14, l15⟩ := r_s0.idx g13.1 g13.2
  obtain ⟨v16, v18, rfl, r17, r19⟩ := rd_K72 q14
  refine ro_lt (r_ia (r_s0.sub HS.sub) sl24 g13.1 g13.2 rfl rfl) rfl ?_
  refine ro_lt (r_lda (l15.sub HS.sub) ag72 rfl rfl) rfl ?_
  refine ro_hy (o_alloc HS (cs := [.slice none 0 0, .slice none 0 0, iv 0, iv 0]) ze72 rfl) rfl ?_
  rintro _ w21 ⟨g20, rfl, hb, HS⟩
  refine ro_hy (o_str (off := 0) (vs := [v16, v18, iv ((((s.1.getD i.toNat (([] : List Int), ([] : List Int), 0, 0)).2).2).1), iv ((((s.1.getD i.toNat (([] : List Int), ([] : List Int), 0, 0)).2).2).2)]) (l' := [v16, v18, iv ((((s.1.getD i.toNat (([] : List Int), ([] : List Int), 0, 0)).2).2).1), iv ((((s.1.getD i.toNat (([] : List Int), ([] : List Int), 0, 0)).2).2).2)]) HS rfl rfl rfl st72 rfl rfl (pl (r17.sub HS.sub).pl (pl (r19.sub HS.sub).pl (pl rfl (pl rfl pl0)))) rfl) rfl ?_
  rintro _ w23 ⟨rfl, hk, HS⟩
  refine RO.nil (nx ?_)
  refine ex_block ?_
  refine ex_seq ?_
  refine ex_region ?_
  refine ro_lt (r_mv (v := iv k) rfl) rfl ?_
  refine ro_lt (r_mv (v := iv y6) rfl) rfl ?_
  refine ro_lt (r_mulw rfl rfl) rfl ?_
  refine ro_lt (r_eql rfl rfl) rfl ?_
  refine ro_lt (r_as (v := .bool ((decide (k = wi (2 * y6))))) rfl) rfl ?_
  refine RO.nil (nx ?_)
  replace h := ite_some h; rcases h with ⟨c25, h⟩ | ⟨c25, h⟩
  · refine ex_if_t rfl (decide_eq_true c25) ?_
    refine ex_seq ?_
    refine ex_region ?_
    refine ro_lt (r_fa (HS.boxAt 0 rfl) fd72_2 rfl) rfl ?_
    refine ro_lt (r_ld ((HS.boxAt 0 rfl).seg 2 1) sc3 rfl) rfl ?_
    refine ro_lt (r_as (v := iv ((((s.1.getD i.toNat (([] : List Int), ([] : List Int), 0, 0)).2).2).1)) rfl) rfl ?_
    refine RO.nil (nx ?_)
    obtain rfl := Option.some.inj h
    refine ex_ret (blk_ret (tq_ret ?_))
    exact ret1 (.inr rfl) rfl rfl (P1.of_flat HS hs rfl)
  refine ex_if_f rfl (decide_eq_false c25) ?_
  refine ex_seq ?_
  refine ex_region ?_
  refine ro_lt (r_mv (v := iv k) rfl) rfl ?_
  refine ro_lt (r_mv (v := iv y6) rfl) rfl ?_
  refine ro_lt (r_subw rfl rfl) rfl ?_
  replace h := bind_some h; obtain ⟨y26, e27, h⟩ := h
  refine ro_hy (o_cf (vs := [iv k, iv 0, iv (wi (y6 - 1))]) HS rfl (c_impl_within e27) cf99 rfl) rfl ?_
  rintro _ w28 ⟨rfl, hb, HS⟩
  refine ro_lt (r_as (v := .bool y26) rfl) rfl ?_
  refine RO.nil (nx ?_)
  replace h := ite_some h; rcases h with ⟨c29, h⟩ | ⟨c29, h⟩
  · refine ex_if_t rfl (c29) ?_
    refine ex_region ?_
    refine ro_lt (r_fa (HS.boxAt 0 rfl) fd72_0 rfl) rfl ?_
    refine ro_lt (r_ld ((HS.boxAt 0 rfl).seg 0 1) sc25 rfl) rfl ?_
    refine ro_lt (r_as (v := v16) rfl) rfl ?_
    refine RO.nil (blk_nx (nx ?_))
    refine ex_seq ?_
    refine ex_seq ?_
    refine ex_region ?_
    refine ro_lt (r_mv (v := iv k) rfl) rfl ?_
    refine ro_lt (r_mv (v := v16) rfl) rfl ?_
    have b30 := (r17.sub HS.sub).big
    refine ro_lt (r_len (n := 1) (r17.sub HS.sub) sl25 rfl) rfl ?_
    refine ro_lt (r_sub rfl rfl (by omega)) rfl ?_
    replace h := bind_some h; obtain ⟨y31, e32, h⟩ := h
    refine ro_hy (o_cf (vs := [iv k, iv 0, iv (((((s.1.getD i.toNat (([] : List Int), ([] : List Int), 0, 0)).1).length : Int)) - 1)]) HS rfl (c_impl_within e32) cf99 rfl) rfl ?_
    rintro _ w33 ⟨rfl, hb, HS⟩
    refine ro_lt (r_not rfl) rfl ?_
    refine RO.nil (nx ?_)
    replace h := ite_some h; rcases h with ⟨c34, h⟩ | ⟨c34, h⟩
    rotate_left
    · refine ex_if_t rfl (congrArg (!·) (bf c34)) ?_
      refine ex_seq ?_
      refine ex_region ?_
      refine ro_lt (r_as (v := iv 1) rfl) rfl ?_
      refine RO.nil (nx ?_)
      obtain rfl := Option.some.inj h
      refine ex_ret (tq_ret ?_)
      exact ret1 (.inr rfl) rfl rfl (P1.of_flat HS hs rfl)
    refine ex_if_f rfl (congrArg (!·) (c34)) ?_
    refine ex_skip (nx ?_)
    refine ex_seq ?_
    refine ex_region ?_
    refine ro_lt (r_mv (v := v16) rfl) rfl ?_
    refine ro_lt (r_mv (v := iv k) rfl) rfl ?_
    replace h := grd_some h; obtain ⟨g35, h⟩ := h
    refine ro_lt (r_ia (r17.sub HS.sub) sl25 g35.1 g35.2 rfl rfl) rfl ?_
    refine ro_lt (r_ld ((r17.int g35.1 g35.2).sub HS.sub) sc3 rfl) rfl ?_
    refine ro_lt (r_as (v := iv (((s.1.getD i.toNat (([] : List Int), ([] : List Int), 0, 0)).1).getD k.toNat 0)) rfl) rfl ?_
    refine RO.nil (nx ?_)
    obtain rfl := Option.some.inj h
    refine ex_ret ?_
    exact ret1 (.inr rfl) rfl rfl (P1.of_flat HS hs rfl)
  refine ex_if_f rfl (bf c29) ?_
  refine ex_seq ?_
  refine ex_region ?_
  refine ro_lt (r_mv (v := iv k) rfl) rfl ?_
  refine ro_lt (r_mv (v := iv y6) rfl) rfl ?_
  refine ro_lt (r_mv (v := iv y6) rfl) rfl ?_
  refine ro_lt (r_mulw rfl rfl) rfl ?_
  refine ro_lt (r_subw rfl rfl) rfl ?_
  replace h := bind_some h; obtain ⟨y36, e37, h⟩ := h
  refine ro_hy (o_cf (vs := [iv k, iv y6, iv (wi ((wi (2 * y6)) - 1))]) HS rfl (c_impl_within e37) cf99 rfl) rfl ?_
  rintro _ w38 ⟨rfl, hb, HS⟩
  refine ro_lt (r_as (v := .bool y36) rfl) rfl ?_
  refine RO.nil (nx ?_)
  replace h := ite_some h; rcases h with ⟨c39, h⟩ | ⟨c39, h⟩
  rotate_left
  · refine ex_if_f rfl (bf c39) ?_
    refine ex_skip (blk_nx (nx ?_))
    refine ex_seq ?_
    refine ex_seq ?_
    refine ex_region ?_
    refine ro_lt (r_mv (v := iv k) rfl) rfl ?_
    refine ro_lt (r_mv (v := .slice none 0 0) rfl) rfl ?_
    refine ro_lt (r_len0 (n := 1) sl25 rfl) rfl ?_
    refine ro_lt (r_subw rfl rfl) rfl ?_
    replace h := bind_some h; obtain ⟨y46, e47, h⟩ := h
    refine ro_hy (o_cf (vs := [iv k, iv 0, iv (wi (0 - 1))]) HS rfl (c_impl_within e47) cf99 rfl) rfl ?_
    rintro _ w48 ⟨rfl, hb, HS⟩
    refine ro_lt (r_not rfl) rfl ?_
    refine RO.nil (nx ?_)
    replace h := ite_some h; rcases h with ⟨c49, h⟩ | ⟨c49, h⟩
    · refine ex_if_f rfl (congrArg (!·) (c49)) ?_
      refine ex_skip (nx ?_)
      refine ex_seq ?_
      refine ex_region ?_
      refine ro_lt (r_mv (v := .slice none 0 0) rfl) rfl ?_
      refine ro_lt (r_mv (v := iv k) rfl) rfl ?_
      cases h
    refine ex_if_t rfl (congrArg (!·) (bf c49)) ?_
    refine ex_seq ?_
    refine ex_region ?_
    refine ro_lt (r_as (v := iv 1) rfl) rfl ?_
    refine RO.nil (nx ?_)
    obtain rfl := Option.some.inj h
    refine ex_ret (tq_ret ?_)
    exact ret1 (.inr rfl) rfl rfl (P1.of_flat HS hs rfl)
  refine ex_if_t rfl (c39) ?_
  refine ex_region ?_
  refine ro_lt (r_fa (HS.boxAt 0 rfl) fd72_1 rfl) rfl ?_
  refine ro_lt (r_ld ((HS.boxAt 0 rfl).seg 1 1) sc25 rfl) rfl ?_
  refine ro_lt (r_mv (v := iv k) rfl) rfl ?_
  refine ro_lt (r_mv (v := iv y6) rfl) rfl ?_
  refine ro_lt (r_subw rfl rfl) rfl ?_
  refine ro_lt (r_as (v := v18) rfl) rfl ?_
  refine ro_lt (r_as (v := iv (wi (k - y6))) rfl) rfl ?_
  refine RO.nil (blk_nx (nx ?_))
  refine ex_seq ?_
  refine ex_seq ?_
  refine ex_region ?_
  refine ro_lt (r_mv (v := iv (wi (k - y6))) rfl) rfl ?_
  refine ro_lt (r_mv (v := v18) rfl) rfl ?_
  have b40 := (r19.sub HS.sub).big
  refine ro_lt (r_len (n := 1) (r19.sub HS.sub) sl25 rfl) rfl ?_
  refine ro_lt (r_sub rfl rfl (by omega)) rfl ?_
  replace h := bind_some h; obtain ⟨y41, e42, h⟩ := h
  refine ro_hy (o_cf (vs := [iv (wi (k - y6)), iv 0, iv ((((((s.1.getD i.toNat (([] : List Int), ([] : List Int), 0, 0)).2).1).length : Int)) - 1)]) HS rfl (c_impl_within e42) cf99 rfl) rfl ?_
  rintro _ w43 ⟨rfl, hb, HS⟩
  refine ro_lt (r_not rfl) rfl ?_
  refine RO.nil (nx ?_)
  replace h := ite_some h; rcases h with ⟨c44, h⟩ | ⟨c44, h⟩
  rotate_left
  · refine ex_if_t rfl (congrArg (!·) (bf c44)) ?_
    refine ex_seq ?_
    refine ex_region ?_
    refine ro_lt (r_as (v := iv 1) rfl) rfl ?_
    refine RO.nil (nx ?_)
    obtain rfl := Option.some.inj h
    refine ex_ret (tq_ret ?_)
    exact ret1 (.inr rfl) rfl rfl (P1.of_flat HS hs rfl)
  refine ex_if_f rfl (congrArg (!·) (c44)) ?_
  refine ex_skip (nx ?_)
  refine ex_seq ?_
  refine ex_region ?_
  refine ro_lt (r_mv (v := v18) rfl) rfl ?_
  refine ro_lt (r_mv (v := iv (wi (k - y6))) rfl) rfl ?_
  replace h := grd_some h; obtain ⟨g45, h⟩ := h
  refine ro_lt (r_ia (r19.sub HS.sub) sl25 g45.1 g45.2 rfl rfl) rfl ?_
  refine ro_lt (r_ld ((r19.int g45.1 g45.2).sub HS.sub) sc3 rfl) rfl ?_
  refine ro_lt (r_as (v := iv ((((s.1.getD i.toNat (([] : List Int), ([] : List Int), 0, 0)).2).1).getD (wi (k - y6)).toNat 0)) rfl) rfl ?_
  refine RO.nil (nx ?_)
  obtain rfl := Option.some.inj h
  refine ex_ret ?_
  exact ret1 (.inr rfl) rfl rfl (P1.of_flat HS hs rfl)
theorem c_NodeName {w : World} {s : (List (List Int × List Int × Int × Int)) × List Int} {v_s0 : Value} {v_s1 : Value} {i : Int} (r_s0 : Rd (.sl 72 (.prod (.sl 3 (.int .i64)) (.prod (.sl 3 (.int .i64)) (.prod (.int .i64) (.int .i64))))) (hp w) s.1 [v_s0]) (r_s1 : Rd (.sl 3 (.int .i64)) (hp w) s.2 [v_s1]) {r : ByteArray} (h : F_NodeName s i = some r) : Calls Try.prog 90 [.agg #[v_s0, v_s1], iv i].toArray w (P1 .str w r) := by
  unfold F_NodeName at h
  have HS := St.init w
  have hs := Sub.refl (hp w)
  refine calls_ex (n := 25) Try.func90 rfl Try.ntmps90 (Nat.le_of_ble_eq_true rfl) ?_
  refine ex_seq ?_
  refine ex_region ?_
  refine ro_hy (o_boxz HS (cs := [v_s0, v_s1]) rfl rfl) rfl ?_
  rintro _ w2 ⟨g1, H5, rfl, q3, l4, hb, HS⟩
  replace r_s0 := r_s0.sub q3
  replace r_s1 := r_s1.sub q3
  replace hs := hs.trans q3
  refine ro_lt (r_as (v := .string ((⟨#[]⟩ : ByteArray))) rfl) rfl ?_
  refine RO.nil (nx ?_)
  refine ex_seq ?_
  refine ex_seq ?_
  refine ex_region ?_
  refine ro_lt (r_lda (l4.sub HS.sub) ag27 rfl rfl) rfl ?_
  refine ro_lt (r_mv (v := iv i) rfl) rfl ?_
  replace h := bind_some h; obtain ⟨y6, e7, h⟩ := h
  refine ro_hy (o_cf (vs := [.agg #[v_s0, v_s1], iv i]) HS rfl (c_Str_isNode (r_s0.sub HS.sub) (r_s1.sub HS.sub) e7) cf105 rfl) rfl ?_
  rintro _ w8 ⟨rfl, hb, HS⟩
  refine ro_lt (r_not rfl) rfl ?_
  refine RO.nil (nx ?_)
  replace h := ite_some h; rcases h with ⟨c9, h⟩ | ⟨c9, h⟩
  rotate_left
  · refine ex_if_t rfl (congrArg (!·) (bf c9)) ?_
    refine ex_seq ?_
    refine ex_region ?_
    refine ro_lt (r_as (v := .string ((⟨#[]⟩ : ByteArray))) rfl) rfl ?_
    refine RO.nil (nx ?_)
    obtain rfl := Option.some.inj h
    refine ex_ret (tq_ret ?_)
    exact ret1 (.inr rfl) rfl rfl (P1.of_flat HS hs rfl)
  refine ex_if_f rfl (congrArg (!·) (c9)) ?_
  refine ex_skip (nx ?_)
  refine ex_seq ?_
  refine ex_region ?_
  refine ro_lt (r_as (v := .string ((⟨#[]⟩ : ByteArray))) rfl) rfl ?_
  refine RO.nil (nx ?_)
  refine ex_seq ?_
  refine ex_seq ?_
  refine ex_region ?_
  refine ro_lt (r_lda (l4.sub HS.sub) ag27 rfl rfl) rfl ?_
  replace h := bind_some h; obtain ⟨y10, e11, h⟩ := h
  refine ro_hy (o_cf (vs := [.agg #[v_s0, v_s1]]) HS rfl (c_impl_CountPredicates (r_s0.sub HS.sub) (r_s1.sub HS.sub) e11) cf141 rfl) rfl ?_
  rintro _ w12 ⟨rfl, hb, HS⟩
  refine ro_lt (r_mv (v := iv 0) rfl) rfl ?_
  refine RO.nil (nx ?_)
  replace h := bind_some h; obtain ⟨y30, e31, h⟩ := h
  refine ex_lbo (fun (st : ByteArray × Int) s' w' => Has s' [(1, iv i), (2, .pointer (some ⟨g1, 0, none⟩)), (4, .string ((⟨#[]⟩ : ByteArray))), (5, .string st.1), (12, iv y10), (13, iv st.2)] ∧ St w H5 w' []) e31 ⟨⟨rfl, rfl, rfl, rfl, rfl, rfl, trivial⟩, HS⟩ ?_ ?_
  · rintro ⟨out_19, i20⟩ c' s' w21 ⟨hs_, HS⟩ h
    rw [has_put hs_]; clear hs_
    try dsimp only at HS
    replace h : F_NodeName_b1 y10 s i out_19 i20 = some c' := h
    unfold F_NodeName_b1 at h
    refine ex_seq ?_
    refine ex_region ?_
    refine ro_lt (r_lss rfl rfl) rfl ?_
    refine RO.nil (nx ?_)
    refine ex_seq ?_
    replace h := ite_some h; rcases h with ⟨c22, h⟩ | ⟨c22, h⟩
    rotate_left
    · refine ex_if_f rfl (decide_eq_false c22) ?_
      refine ex_exit (tq_exit ?_)
      obtain rfl := Option.some.inj h
      exact lq_out ⟨⟨rfl, rfl, rfl, rfl, rfl, rfl, trivial⟩, HS⟩
    refine ex_if_t rfl (decide_eq_true c22) ?_
    refine ex_skip (nx ?_)
    refine ex_seq ?_
    refine ex_block ?_
    refine ex_seq ?_
    refine ex_region ?_
    refine ro_lt (r_mv (v := iv i20) rfl) rfl ?_
    refine ro_lt (r_as (v := iv i20) rfl) rfl ?_
    refine RO.nil (nx ?_)
    refine ex_region ?_
    refine ro_lt (r_mv (v := .string out_19) rfl) rfl ?_
    refine ro_lt (r_lda (l4.sub HS.sub) ag27 rfl rfl) rfl ?_
    refine ro_lt (r_mv (v := iv i20) rfl) rfl ?_
    refine ro_lt (r_mv (v := iv i) rfl) rfl ?_
    replace h := bind_some h; obtain ⟨y23, e24, h⟩ := h
    refine ro_hy (o_cf (vs := [.agg #[v_s0, v_s1], iv i20, iv i]) HS rfl (c_impl_PredicateAt (r_s0.sub HS.sub) (r_s1.sub HS.sub) e24) cf143 rfl) rfl ?_
    rintro _ w25 ⟨rfl, hb, HS⟩
    replace h := bind_some h; obtain ⟨y26, e27, h⟩ := h
    refine ro_hy (o_cf (vs := [iv y23]) HS rfl (c_impl_TruthText e27) cf142 rfl) rfl ?_
    rintro _ w28 ⟨rfl, hb, HS⟩
    replace h := grd_some h; obtain ⟨g29, h⟩ := h
    refine ro_lt (r_sadd rfl rfl g29) rfl ?_
    refine ro_lt (r_as (v := .string (out_19 ++ y26)) rfl) rfl ?_
    refine RO.nil (blk_nx (nx ?_))
    refine ex_region ?_
    refine ro_lt (r_addw rfl rfl) rfl ?_
    refine ro_lt (r_mv (v := iv (wi (i20 + 1))) rfl) rfl ?_
    refine RO.nil ?_
    obtain rfl := Option.some.inj h
    exact lq_go ⟨⟨rfl, rfl, rfl, rfl, rfl, rfl, trivial⟩, HS⟩
  rintro s' w32 ⟨hs_, HS⟩
  rw [has_put hs_]; clear hs_
  refine (nx ?_)
  refine ex_seq ?_
  refine ex_region ?_
  refine ro_lt (r_mv (v := .string y30.1) rfl) rfl ?_
  refine ro_lt (r_as (v := .string y30.1) rfl) rfl ?_
  refine RO.nil (nx ?_)
  obtain rfl := Option.some.inj h
  refine ex_ret ?_
  exact ret1 (.inr rfl) rfl rfl (P1.of_flat HS hs rfl)
theorem c_slices_insertionSortCmpFunc_string {w : World} {H : Hp} {FR : List Ob} {data : List ByteArray} {v_data0 : Value} {a : Int} {b : Int} {cmp : ByteArray → ByteArray → Option Int} {v_cmp : Value} (HS : St w H w (.ow (.sl 9 .str) data [v_data0] :: FR)) (k_cmp : Fn2 Try.prog H .str .str (.int .i64) v_cmp cmp) {r : List ByteArray} (h : F_slices_insertionSortCmpFunc_string data a b cmp = some r) : Calls Try.prog 168 [v_data0, iv a, iv b, v_cmp].toArray w ((fun r => PS (.tuple #[]) fun w' => St w H w' (.ow (.sl 9 .str) r [v_data0] :: FR) : (List ByteArray) → Ending → World → Prop) r) := by
  unfold F_slices_insertionSortCmpFunc_string at h
  refine calls_ex (n := 53) Try.func168 rfl Try.ntmps168 (Nat.le_of_ble_eq_true rfl) ?_
  refine ex_seq ?_
  refine ex_region ?_
  refine ro_lt (r_mv (v := iv a) rfl) rfl ?_
  refine ro_lt (r_addw rfl rfl) rfl ?_
  refine ro_lt (r_as (v := iv (wi (a + 1))) rfl) rfl ?_
  refine RO.nil (nx ?_)
  replace h := bind_some h; obtain ⟨y31, e32, h⟩ := h
  refine ex_lbo (fun (st : (List ByteArray) × Int) s' w' => Has s' [(0, v_data0), (1, iv a), (2, iv b), (3, v_cmp), (8, iv st.2)] ∧ St w H w' (.ow (.sl 9 .str) st.1 [v_data0] :: FR)) e32 ⟨⟨rfl, rfl, rfl, rfl, rfl, trivial⟩, HS⟩ ?_ ?_
  · rintro ⟨data_4, i_5⟩ c' s' w6 ⟨hs_, HS⟩ h
    rw [has_put hs_]; clear hs_
    try dsimp only at HS
    replace h : F_slices_insertionSortCmpFunc_string_b2 b a cmp data_4 i_5 = some c' := h
    unfold F_slices_insertionSortCmpFunc_string_b2 at h
    refine ex_seq ?_
    refine ex_seq ?_
    refine ex_region ?_
    refine ro_lt (r_mv (v := iv i_5) rfl) rfl ?_
    refine ro_lt (r_mv (v := iv b) rfl) rfl ?_
    refine ro_lt (r_lss rfl rfl) rfl ?_
    refine RO.nil (nx ?_)
    replace h := ite_some h; rcases h with ⟨c7, h⟩ | ⟨c7, h⟩
    rotate_left
    · refine ex_if_f rfl (decide_eq_false c7) ?_
      refine ex_exit (tq_exit ?_)
      obtain rfl := Option.some.inj h
      exact lq_out ⟨⟨rfl, rfl, rfl, rfl, rfl, trivial⟩, HS⟩
    refine ex_if_t rfl (decide_eq_true c7) ?_
    refine ex_skip (nx ?_)
    refine ex_seq ?_
    refine ex_block ?_
    refine ex_seq ?_
    refine ex_region ?_
    refine ro_lt (r_mv (v := iv i_5) rfl) rfl ?_
    refine ro_lt (r_as (v := iv i_5) rfl) rfl ?_
    refine RO.nil (nx ?_)
    replace h := bind_some h; obtain ⟨y27, e28, h⟩ := h
    refine ex_lbo (fun (st : (List ByteArray) × Int) s' w' => Has s' [(0, v_data0), (1, iv a), (2, iv b), (3, v_cmp), (8, iv i_5), (9, iv st.2)] ∧ St w H w' (.ow (.sl 9 .str) st.1 [v_data0] :: FR)) e28 ⟨⟨rfl, rfl, rfl, rfl, rfl, rfl, trivial⟩, HS⟩ ?_ ?_
    · rintro ⟨data_10, j_11⟩ c' s' w12 ⟨hs_, HS⟩ h
      rw [has_put hs_]; clear hs_
      try dsimp only at HS
      replace h : F_slices_insertionSortCmpFunc_string_b1 a cmp data_10 j_11 = some c' := h
      unfold F_slices_insertionSortCmpFunc_string_b1 at h
      refine ex_seq ?_
      refine ex_seq ?_
      refine ex_dr (Mm H [8, 13]) (fun _ => True) [0, 0, 3, 7, 15, 15, 15, 111, 239, 15, 15, 1039, 3599, 7695, 16383, 32767, 65535] [14] (.op 0 (.op 1 (.op 2 (.op 3 (.op 4 (.op 5 (.op 6 (.op 7 (.op 8 (.op 9 (.op 10 (.op 11 (.op 12 (.op 13 (.op 14 (.op 15 (.op 16 .nil))))))))))))))))) mix (by kernel_rfl) (by kernel_rfl) ?_
      intro w13 hw hb; have HS := HS.ext hb; clear hw hb
      refine RT.lt rfl rfl rfl rfl (fun w' k => r_mv (v := iv j_11) rfl) ?_
      refine RT.lt rfl rfl rfl rfl (fun w' k => r_mv (v := iv a) rfl) ?_
      refine RT.lt rfl rfl rfl rfl (fun w' k => r_gtr rfl rfl) ?_
      refine RT.lt rfl rfl rfl rfl (fun w' k => r_mv (v := .bool ((decide (j_11 > a)))) rfl) ?_
      replace h := ite_some h; rcases h with ⟨c14, h⟩ | ⟨c14, h⟩
      rotate_left
      · refine RT.sk rfl rfl rfl (want_off rfl (sb (decide_eq_false c14)) rfl) ?_
        refine RT.sk rfl rfl rfl (want_off rfl (sb (decide_eq_false c14)) rfl) ?_
        refine RT.sk rfl rfl rfl (want_off rfl (sb (decide_eq_false c14)) rfl) ?_
        refine RT.sk rfl rfl rfl (want_off rfl (sb (decide_eq_false c14)) rfl) ?_
        refine RT.sk rfl rfl rfl (want_off rfl (sb (decide_eq_false c14)) rfl) ?_
        refine RT.sk rfl rfl rfl (want_off rfl (sb (decide_eq_false c14)) rfl) ?_
        refine RT.sk rfl rfl rfl (want_off rfl (sb (decide_eq_false c14)) rfl) ?_
        refine RT.sk rfl rfl rfl (want_off rfl (sb (decide_eq_false c14)) rfl) ?_
        refine RT.sk rfl rfl rfl (want_off rfl (sb (decide_eq_false c14)) rfl) ?_
        refine RT.sk rfl rfl rfl (want_off rfl (sb (decide_eq_false c14)) rfl) ?_
        refine RT.sk rfl rfl rfl (want_off rfl (sb (decide_eq_false c14)) rfl) ?_
        refine RT.sk rfl rfl rfl (want_off rfl (sb (decide_eq_false c14)) rfl) ?_
        refine RT.lt rfl rfl rfl rfl (fun w' k => r_pickf (v := .bool false) (decide_eq_false c14) rfl rfl) ?_
        refine RT.nil (nx ?_)
        refine ex_if_f rfl (rfl) ?_
        refine ex_exit (tq_exit ?_)
        obtain rfl := Option.some.inj h
        exact lq_out ⟨⟨rfl, rfl, rfl, rfl, rfl, rfl, trivial⟩, HS⟩
      refine RT.lt rfl rfl rfl (want_on rfl (sb (decide_eq_true c14))) (fun w' k => r_mv (v := v_cmp) rfl) ?_
      refine RT.lt rfl rfl rfl (want_on rfl (sb (decide_eq_true c14))) (fun w' k => r_mv (v := v_data0) rfl) ?_
      refine RT.lt rfl rfl rfl (want_on rfl (sb (decide_eq_true c14))) (fun w' k => r_mv (v := iv j_11) rfl) ?_
      replace h := grd_some h; obtain ⟨g15, h⟩ := h
      refine RT.lt rfl rfl rfl (want_on rfl (sb (decide_eq_true c14))) (fun w' k => r_ia (HS.rd 0 rfl) sl102 g15.1 g15.2 rfl rfl) ?_
      refine RT.lt rfl rfl rfl (want_on rfl (sb (decide_eq_true c14))) (fun w' k => r_ld (((HS.rd 0 rfl).strE g15.1 g15.2).k0 (Sub.refl _) (k.kp.none rfl)) sc9 rfl) ?_
      refine RT.lt rfl rfl rfl (want_on rfl (sb (decide_eq_true c14))) (fun w' k => r_mv (v := v_data0) rfl) ?_
      refine RT.lt rfl rfl rfl (want_on rfl (sb (decide_eq_true c14))) (fun w' k => r_mv (v := iv j_11) rfl) ?_
      refine RT.lt rfl rfl rfl (want_on rfl (sb (decide_eq_true c14))) (fun w' k => r_subw rfl rfl) ?_
      replace h := grd_some h; obtain ⟨g16, h⟩ := h
      refine RT.lt rfl rfl rfl (want_on rfl (sb (decide_eq_true c14))) (fun w' k => r_ia (HS.rd 0 rfl) sl102 g16.1 g16.2 rfl rfl) ?_
      refine RT.lt rfl rfl rfl (want_on rfl (sb (decide_eq_true c14))) (fun w' k => r_ld (((HS.rd 0 rfl).strE g16.1 g16.2).k0 (Sub.refl _) (k.kp.none rfl)) sc9 rfl) ?_
      replace h := bind_some h; obtain ⟨y17, e18, h⟩ := h
      refine RT.hy rfl rfl rfl rfl (want_on rfl (sb (decide_eq_true c14))) (o_f2 HS rfl (k_cmp.sub (Sub.refl _)) rfl rfl rfl rfl rfl e18) (fun _ _ ⟨_, hb, _⟩ => km_below hb (fun _ => trivial)) ?_
      rintro _ w19 ⟨rfl, hb, HS⟩
      refine RT.lt rfl rfl rfl (want_on rfl (sb (decide_eq_true c14))) (fun w' k => r_lss rfl rfl) ?_
      refine RT.lt rfl rfl rfl rfl (fun w' k => r_pickt (v := .bool ((decide (y17 < 0)))) (decide_eq_true c14) rfl rfl) ?_
      refine RT.nil (nx ?_)
      replace h := ite_some h; rcases h with ⟨c20, h⟩ | ⟨c20, h⟩
      rotate_left
      · refine ex_if_f rfl (decide_eq_false c20) ?_
        refine ex_exit (tq_exit ?_)
        obtain rfl := Option.some.inj h
        exact lq_out ⟨⟨rfl, rfl, rfl, rfl, rfl, rfl, trivial⟩, HS⟩
      refine ex_if_t rfl (decide_eq_true c20) ?_
      refine ex_skip (nx ?_)
      refine ex_seq ?_
      refine ex_block ?_
      refine ex_dr (Mm H [9, 13]) (fun _ => True) [0, 0, 0, 0, 8, 0, 0, 64, 224, 480, 0, 0, 3072, 7168, 16355, 32739, 65535, 131071] [15, 17] (.op 0 (.op 1 (.op 2 (.op 3 (.op 4 (.op 5 (.op 6 (.op 7 (.op 8 (.op 9 (.op 10 (.op 11 (.op 12 (.op 13 (.op 14 (.op 15 (.op 16 (.op 17 .nil)))))))))))))))))) mix (by kernel_rfl) (by kernel_rfl) ?_
      intro w21 hw hb; have HS := HS.ext hb; clear hw hb
      refine RT.lt rfl rfl rfl rfl (fun w' k => r_mv (v := v_data0) rfl) ?_
      refine RT.lt rfl rfl rfl rfl (fun w' k => r_mv (v := iv j_11) rfl) ?_
      refine RT.lt rfl rfl rfl rfl (fun w' k => r_mv (v := v_data0) rfl) ?_
      refine RT.lt rfl rfl rfl rfl (fun w' k => r_mv (v := iv j_11) rfl) ?_
      refine RT.lt rfl rfl rfl rfl (fun w' k => r_subw rfl rfl) ?_
      refine RT.lt rfl rfl rfl rfl (fun w' k => r_mv (v := v_data0) rfl) ?_
      refine RT.lt rfl rfl rfl rfl (fun w' k => r_mv (v := iv j_11) rfl) ?_
      refine RT.lt rfl rfl rfl rfl (fun w' k => r_subw rfl rfl) ?_
      refine RT.lt rfl rfl rfl rfl (fun w' k => r_ia (HS.rd 0 rfl) sl102 g16.1 g16.2 rfl rfl) ?_
      refine RT.lt rfl rfl rfl rfl (fun w' k => r_ld (((HS.rd 0 rfl).strE g16.1 g16.2).k0 (Sub.refl _) (k.kp.none rfl)) sc9 rfl) ?_
      refine RT.lt rfl rfl rfl rfl (fun w' k => r_mv (v := v_data0) rfl) ?_
      refine RT.lt rfl rfl rfl rfl (fun w' k => r_mv (v := iv j_11) rfl) ?_
      refine RT.lt rfl rfl rfl rfl (fun w' k => r_ia (HS.rd 0 rfl) sl102 g15.1 g15.2 rfl rfl) ?_
      refine RT.lt rfl rfl rfl rfl (fun w' k => r_ld (((HS.rd 0 rfl).strE g15.1 g15.2).k0 (Sub.refl _) (k.kp.none rfl)) sc9 rfl) ?_
      refine RT.lt rfl rfl rfl rfl (fun w' k => r_ia (HS.rd 0 rfl) sl102 g15.1 g15.2 rfl rfl) ?_
      refine RT.hy rfl rfl rfl rfl rfl (o_set (x' := data_10.getD (wi (j_11 - 1)).toNat ByteArray.empty) HS rfl g15.1 g15.2 st9 rfl rfl) (fun _ _ ⟨_, hk, HS2⟩ => km_st HS (Sub.refl _) (hk _ fun _ h => h) (own_none HS) (by kernel_rfl) (fun _ => trivial)) ?_
      rintro _ w22 ⟨rfl, hk, HS⟩
      replace h := grd_some h; obtain ⟨g24, h⟩ := h
      refine RT.lt rfl rfl rfl rfl (fun w' k => r_ia (HS.rd 0 rfl) sl102 g24.1 g24.2 rfl rfl) ?_
      refine RT.hy rfl rfl rfl rfl rfl (o_set (x' := data_10.getD j_11.toNat ByteArray.empty) HS rfl g24.1 g24.2 st9 rfl rfl) (fun _ _ ⟨_, hk, HS2⟩ => km_st HS (Sub.refl _) (hk _ fun _ h => h) (own_none HS) (by kernel_rfl) (fun _ => trivial)) ?_
      rintro _ w25 ⟨rfl, hk, HS⟩
      refine RT.nil (blk_nx (nx ?_))
      refine ex_region ?_
      refine ro_lt (r_mv (v := iv j_11) rfl) rfl ?_
      refine ro_lt (r_subw rfl rfl) rfl ?_
      refine ro_lt (r_as (v := iv (wi (j_11 - 1))) rfl) rfl ?_
      refine RO.nil ?_
      obtain rfl := Option.some.inj h
      exact lq_go ⟨⟨rfl, rfl, rfl, rfl, rfl, rfl, trivial⟩, HS⟩
    rintro s' w29 ⟨hs_, HS⟩
    rw [has_put hs_]; clear hs_
    refine (blk_nx (nx ?_))
    refine ex_region ?_
    refine ro_lt (r_mv (v := iv i_5) rfl) rfl ?_
    refine ro_lt (r_addw rfl rfl) rfl ?_
    refine ro_lt (r_as (v := iv (wi (i_5 + 1))) rfl) rfl ?_
    refine RO.nil ?_
    obtain rfl := Option.some.inj h
    exact lq_go ⟨⟨rfl, rfl, rfl, rfl, rfl, trivial⟩, HS⟩
  rintro s' w33 ⟨hs_, HS⟩
  rw [has_put hs_]; clear hs_
  obtain rfl := Option.some.inj h
  exact ret0 (.inl rfl) rfl ⟨rfl, HS⟩
theorem c_slices_pdqsortCmpFunc_string {w : World} {H : Hp} {FR : List Ob} {a : List ByteArray} {v_a0 : Value} {a_1 : Int} {p : Int} {p_3 : Int} {e : ByteArray → ByteArray → Option Int} {v_e : Value} (HS : St w H w (.ow (.sl 9 .str) a [v_a0] :: FR)) (k_e : Fn2 Try.prog H .str .str (.int .i64) v_e e) {r : List ByteArray} (h : F_slices_pdqsortCmpFunc_string a a_1 p p_3 e = some r) : Calls Try.prog 144 [v_a0, iv a_1, iv p, iv p_3, v_e].toArray w ((fun r => PS (.tuple #[]) fun w' => St w H w' (.ow (.sl 9 .str) r [v_a0] :: FR) : (List ByteArray) → Ending → World → Prop) r) := by
  unfold F_slices_pdqsortCmpFunc_string at h
  refine calls_ex (n := 148) Try.func144 rfl Try.ntmps144 (Nat.le_of_ble_eq_true rfl) ?_
  refine ex_seq ?_
  refine ex_region ?_
  refine ro_lt (r_as (v := .bool true) rfl) rfl ?_
  refine RO.nil (nx ?_)
  refine ex_seq ?_
  refine ex_region ?_
  refine ro_lt (r_as (v := .bool true) rfl) rfl ?_
  refine RO.nil (nx ?_)
  replace h := bind_some h; obtain ⟨y10, e11, h⟩ := h
  refine ex_lbr (fun (st : Unit) s' w' => Has s' [(0, v_a0), (1, iv a_1), (2, iv p), (3, iv p_3), (4, v_e), (10, .bool true), (11, .bool true)] ∧ St w H w' (.ow (.sl 9 .str) a [v_a0] :: FR)) (fun r s' w' => FQ Try.prog Try.f144 148 ((fun r => PS (.tuple #[]) fun w' => St w H w' (.ow (.sl 9 .str) r [v_a0] :: FR) : (List ByteArray) → Ending → World → Prop) r) .ret s' w') e11 ⟨⟨rfl, rfl, rfl, rfl, rfl, rfl, rfl, trivial⟩, HS⟩ ?_ ?_
  · rintro _ c' s' w3 ⟨hs_, HS⟩ h
    rw [has_put hs_]; clear hs_
    replace h : F_slices_pdqsortCmpFunc_string_b1 p a_1 a e = some c' := h
    unfold F_slices_pdqsortCmpFunc_string_b1 at h
    refine ex_block ?_
    refine ex_seq ?_
    refine ex_region ?_
    refine ro_lt (r_mv (v := iv p) rfl) rfl ?_
    refine ro_lt (r_mv (v := iv a_1) rfl) rfl ?_
    refine ro_lt (r_subw rfl rfl) rfl ?_
    refine ro_lt (r_as (v := iv (wi (p - a_1))) rfl) rfl ?_
    refine RO.nil (nx ?_)
    refine ex_seq ?_
    refine ex_seq ?_
    refine ex_region ?_
    refine ro_lt (r_mv (v := iv (wi (p - a_1))) rfl) rfl ?_
    refine ro_lt (r_leq rfl rfl) rfl ?_
    refine RO.nil (nx ?_)
    replace h := ite_some h; rcases h with ⟨c4, h⟩ | ⟨c4, h⟩
    rotate_left
    · cases h
    refine ex_if_t rfl (decide_eq_true c4) ?_
    refine ex_seq ?_
    refine ex_region ?_
    refine ro_lt (r_mv (v := v_a0) rfl) rfl ?_
    refine ro_lt (r_mv (v := iv a_1) rfl) rfl ?_
    refine ro_lt (r_mv (v := iv p) rfl) rfl ?_
    refine ro_lt (r_mv (v := v_e) rfl) rfl ?_
    replace h := bind_some h; obtain ⟨y5, e6, h⟩ := h
    refine ro_hy (o_cs (vs := [v_a0, iv a_1, iv p, v_e]) (c_slices_insertionSortCmpFunc_string HS.self k_e e6) cf168 rfl) rfl ?_
    rintro _ w7 ⟨rfl, HS2⟩
    replace HS := HS.from HS2
    refine RO.nil (nx ?_)
    obtain rfl := Option.some.inj h
    refine ex_ret (tq_ret (blk_ret (lq_ret ?_)))
    exact ret0 (.inr rfl) rfl ⟨rfl, HS⟩
  rcases y10 with r14 | y10
  · intro s' w' hR
    obtain rfl := Option.some.inj h
    exact hR
  rintro s' w12 ⟨hs_, HS⟩
  rw [has_put hs_]; clear hs_
  obtain rfl := Option.some.inj h
  exact ret0 (.inl rfl) rfl ⟨rfl, HS⟩
theorem c_slices_SortFunc_string_string {w : World} {H : Hp} {FR : List Ob} {x : List ByteArray} {v_x0 : Value} {cmp : ByteArray → ByteArray → Option Int} {v_cmp : Value} (HS : St w H w (.ow (.sl 9 .str) x [v_x0] :: FR)) (k_cmp : Fn2 Try.prog H .str .str (.int .i64) v_cmp cmp) {r : List ByteArray} (h : F_slices_SortFunc_string_string x cmp = some r) : Calls Try.prog 91 [v_x0, v_cmp].toArray w ((fun r => PS (.tuple #[]) fun w' => St w H w' (.ow (.sl 9 .str) r [v_x0] :: FR) : (List ByteArray) → Ending → World → Prop) r) := by
  unfold F_slices_SortFunc_string_string at h
  refine calls_ex (n := 14) Try.func91 rfl Try.ntmps91 (Nat.le_of_ble_eq_true rfl) ?_
  refine ex_seq ?_
  refine ex_region ?_
  refine ro_lt (r_mv (v := v_x0) rfl) rfl ?_
  have b2 := (HS.rd 0 rfl).big
  refine ro_lt (r_len (n := 1) (HS.rd 0 rfl) sl102 rfl) rfl ?_
  refine ro_lt (r_as (v := iv ((x.length : Int))) rfl) rfl ?_
  refine RO.nil (nx ?_)
  refine ex_region ?_
  refine ro_lt (r_mv (v := v_x0) rfl) rfl ?_
  refine ro_lt (r_mv (v := iv ((x.length : Int))) rfl) rfl ?_
  refine ro_lt (r_mv (v := iv ((x.length : Int))) rfl) rfl ?_
  replace h := grd_some h; obtain ⟨g3, h⟩ := h
  refine ro_lt (r_cvt cv3_137 g3 rfl) rfl ?_
  replace h := bind_some h; obtain ⟨y4, e5, h⟩ := h
  refine ro_hy (o_cf (vs := [Value.int .u64 ((x.length : Int))]) HS rfl (c_math_bits_Len e5) cf145 rfl) rfl ?_
  rintro _ w6 ⟨rfl, hb, HS⟩
  refine ro_lt (r_mv (v := v_cmp) rfl) rfl ?_
  replace h := bind_some h; obtain ⟨y7, e8, h⟩ := h
  refine ro_hy (o_cs (vs := [v_x0, iv 0, iv ((x.length : Int)), iv y4, v_cmp]) (c_slices_pdqsortCmpFunc_string HS.self k_cmp e8) cf144 rfl) rfl ?_
  rintro _ w9 ⟨rfl, HS2⟩
  replace HS := HS.from HS2
  refine RO.nil ?_
  obtain rfl := Option.some.inj h
  exact ret0 (.inl rfl) rfl ⟨rfl, HS⟩
theorem c_impl_NextOf {w : World} {s : (List (List Int × List Int × Int × Int)) × List Int} {v_s0 : Value} {v_s1 : Value} {i : Int} {j : Int} (r_s0 : Rd (.sl 72 (.prod (.sl 3 (.int .i64)) (.prod (.sl 3 (.int .i64)) (.prod (.int .i64) (.int .i64))))) (hp w) s.1 [v_s0]) (r_s1 : Rd (.sl 3 (.int .i64)) (hp w) s.2 [v_s1]) {r : Int} (h : F_impl_NextOf s i j = some r) : Calls Try.prog 50 [.agg #[v_s0, v_s1], iv i, iv j].toArray w (P1 (.int .i64) w r) := by
  unfold F_impl_NextOf at h
  have HS := St.init w
  have hs := Sub.refl (hp w)
  refine calls_ex (n := 41) Try.func50 rfl Try.ntmps50 (Nat.le_of_ble_eq_true rfl) ?_
  refine ex_seq ?_
  refine ex_region ?_
  refine ro_hy (o_boxz HS (cs := [v_s0, v_s1]) rfl rfl) rfl ?_
  rintro _ w2 ⟨g1, H5, rfl, q3, l4, hb, HS⟩
  replace r_s0 := r_s0.sub q3
  replace r_s1 := r_s1.sub q3
  replace hs := hs.trans q3
  refine ro_lt (r_as (v := iv 0) rfl) rfl ?_
  refine RO.nil (nx ?_)
  refine ex_seq ?_
  refine ex_seq ?_
  refine ex_region ?_
  refine ro_lt (r_lda (l4.sub HS.sub) ag27 rfl rfl) rfl ?_
  refine ro_lt (r_mv (v := iv i) rfl) rfl ?_
  replace h := bind_some h; obtain ⟨y6, e7, h⟩ := h
  refine ro_hy (o_cf (vs := [.agg #[v_s0, v_s1], iv i]) HS rfl (c_Str_isNode (r_s0.sub HS.sub) (r_s1.sub HS.sub) e7) cf105 rfl) rfl ?_
  rintro _ w8 ⟨rfl, hb, HS⟩
  refine ro_lt (r_not rfl) rfl ?_
  refine ro_lt (r_mv (v := .bool ((!y6))) rfl) rfl ?_
  replace h := ite_some h; rcases h with ⟨c9, h⟩ | ⟨c9, h⟩
  rotate_left
  · refine ro_off (sb (congrArg (!·) (bf c9))) rfl rfl ?_
    refine ro_off (sb (congrArg (!·) (bf c9))) rfl rfl ?_
    refine ro_off (sb (congrArg (!·) (bf c9))) rfl rfl ?_
    refine ro_off (sb (congrArg (!·) (bf c9))) rfl rfl ?_
    refine ro_lt (r_pickt (v := .bool true) (congrArg (!·) (bf c9)) rfl rfl) rfl ?_
    refine ro_lt (r_mv (v := .bool true) rfl) rfl ?_
    refine ro_off (sb (rfl)) rfl rfl ?_
    refine ro_off (sb (rfl)) rfl rfl ?_
    refine ro_off (sb (rfl)) rfl rfl ?_
    refine ro_off (sb (rfl)) rfl rfl ?_
    refine ro_off (sb (rfl)) rfl rfl ?_
    refine ro_off (sb (rfl)) rfl rfl ?_
    refine ro_off (sb (rfl)) rfl rfl ?_
    refine ro_off (sb (rfl)) rfl rfl ?_
    refine ro_off (sb (rfl)) rfl rfl ?_
    refine ro_off (sb (rfl)) rfl rfl ?_
    refine ro_off (sb (rfl)) rfl rfl ?_
    refine ro_lt (r_pickt (v := .bool true) (rfl) rfl rfl) rfl ?_
    refine RO.nil (nx ?_)
    refine ex_if_t rfl (rfl) ?_
    refine ex_seq ?_
    refine ex_region ?_
    refine ro_lt (r_as (v := iv 1) rfl) rfl ?_
    refine RO.nil (nx ?_)
    obtain rfl := Option.some.inj h
    refine ex_ret (tq_ret ?_)
    exact ret1 (.inr rfl) rfl rfl (P1.of_flat HS hs rfl)
  refine ro_on (sb (congrArg (!·) (c9))) ?_
  refine ro_lt (r_lda (l4.sub HS.sub) ag27 rfl rfl) rfl ?_
  refine ro_on (sb (congrArg (!·) (c9))) ?_
  refine ro_lt (r_mv (v := iv j) rfl) rfl ?_
  replace h := bind_some h; obtain ⟨y10, e11, h⟩ := h
  refine ro_on (sb (congrArg (!·) (c9))) ?_
  refine ro_hy (o_cf (vs := [.agg #[v_s0, v_s1], iv j]) HS rfl (c_Str_isNode (r_s0.sub HS.sub) (r_s1.sub HS.sub) e11) cf105 rfl) rfl ?_
  rintro _ w12 ⟨rfl, hb, HS⟩
  refine ro_on (sb (congrArg (!·) (c9))) ?_
  refine ro_lt (r_not rfl) rfl ?_
  refine ro_lt (r_pickf (v := .bool ((!y10))) (congrArg (!·) (c9)) rfl rfl) rfl ?_
  refine ro_lt (r_mv (v := .bool ((!y10))) rfl) rfl ?_
  replace h := ite_some h; rcases h with ⟨c13, h⟩ | ⟨c13, h⟩
  rotate_left
  · refine ro_off (sb (congrArg (!·) (bf c13))) rfl rfl ?_
    refine ro_off (sb (congrArg (!·) (bf c13))) rfl rfl ?_
    refine ro_off (sb (congrArg (!·) (bf c13))) rfl rfl ?_
    refine ro_off (sb (congrArg (!·) (bf c13))) rfl rfl ?_
    refine ro_off (sb (congrArg (!·) (bf c13))) rfl rfl ?_
    refine ro_off (sb (congrArg (!·) (bf c13))) rfl rfl ?_
    refine ro_off (sb (congrArg (!·) (bf c13))) rfl rfl ?_
    refine ro_off (sb (congrArg (!·) (bf c13))) rfl rfl ?_
    refine ro_off (sb (congrArg (!·) (bf c13))) rfl rfl ?_
    refine ro_off (sb (congrArg (!·) (bf c13))) rfl rfl ?_
    refine ro_off (sb (congrArg (!·) (bf c13))) rfl rfl ?_
    refine ro_lt (r_pickt (v := .bool true) (congrArg (!·) (bf c13)) rfl rfl) rfl ?_
    refine RO.nil (nx ?_)
    refine ex_if_t rfl (rfl) ?_
    refine ex_seq ?_
    refine ex_region ?_
    refine ro_lt (r_as (v := iv 1) rfl) rfl ?_
    refine RO.nil (nx ?_)
    obtain rfl := Option.some.inj h
    refine ex_ret (tq_ret ?_)
    exact ret1 (.inr rfl) rfl rfl (P1.of_flat HS hs rfl)
  refine ro_on (sb (congrArg (!·) (c13))) ?_
  refine ro_lt (r_fa (l4.sub HS.sub) fd27_1 rfl) rfl ?_
  refine ro_on (sb (congrArg (!·) (c13))) ?_
  refine ro_lt (r_ld ((l4.seg 1 1).sub HS.sub) sc25 rfl) rfl ?_
  have b14 := (r_s1.sub HS.sub).big
  refine ro_on (sb (congrArg (!·) (c13))) ?_
  refine ro_lt (r_len (n := 1) (r_s1.sub HS.sub) sl25 rfl) rfl ?_
  refine ro_on (sb (congrArg (!·) (c13))) ?_
  refine ro_lt (r_fa (l4.sub HS.sub) fd27_0 rfl) rfl ?_
  refine ro_on (sb (congrArg (!·) (c13))) ?_
  refine ro_lt (r_ld ((l4.seg 0 1).sub HS.sub) sc24 rfl) rfl ?_
  have b15 := (r_s0.sub HS.sub).big
  refine ro_on (sb (congrArg (!·) (c13))) ?_
  refine ro_lt (r_len (n := 4) (r_s0.sub HS.sub) sl24 rfl) rfl ?_
  refine ro_on (sb (congrArg (!·) (c13))) ?_
  refine ro_lt (r_fa (l4.sub HS.sub) fd27_0 rfl) rfl ?_
  refine ro_on (sb (congrArg (!·) (c13))) ?_
  refine ro_lt (r_ld ((l4.seg 0 1).sub HS.sub) sc24 rfl) rfl ?_
  refine ro_on (sb (congrArg (!·) (c13))) ?_
  refine ro_lt (r_len (n := 4) (r_s0.sub HS.sub) sl24 rfl) rfl ?_
  refine ro_on (sb (congrArg (!·) (c13))) ?_
  refine ro_lt (r_mulw rfl rfl) rfl ?_
  refine ro_on (sb (congrArg (!·) (c13))) ?_
  refine ro_lt (r_neq rfl rfl) rfl ?_
  refine ro_lt (r_pickf (v := .bool ((!(decide ((s.2.length : Int) = wi ((s.1.length : Int) * (s.1.length : Int))))))) (congrArg (!·) (c13)) rfl rfl) rfl ?_
  refine RO.nil (nx ?_)
  replace h := ite_some h; rcases h with ⟨c16, h⟩ | ⟨c16, h⟩
  rotate_left
  · refine ex_if_t rfl (congrArg (!·) (decide_eq_false c16)) ?_
    refine ex_seq ?_
    refine ex_region ?_
    refine ro_lt (r_as (v := iv 1) rfl) rfl ?_
    refine RO.nil (nx ?_)
    obtain rfl := Option.some.inj h
    refine ex_ret (tq_ret ?_)
    exact ret1 (.inr rfl) rfl rfl (P1.of_flat HS hs rfl)
  refine ex_if_f rfl (congrArg (!·) (decide_eq_true c16)) ?_
  refine ex_skip (nx ?_)
  refine ex_seq ?_
  refine ex_region ?_
  refine ro_lt (r_fa (l4.sub HS.sub) fd27_1 rfl) rfl ?_
  refine ro_lt (r_ld ((l4.seg 1 1).sub HS.sub) sc25 rfl) rfl ?_
  refine ro_lt (r_mv (v := iv i) rfl) rfl ?_
  refine ro_lt (r_fa (l4.sub HS.sub) fd27_0 rfl) rfl ?_
  refine ro_lt (r_ld ((l4.seg 0 1).sub HS.sub) sc24 rfl) rfl ?_
  refine ro_lt (r_len (n := 4) (r_s0.sub HS.sub) sl24 rfl) rfl ?_
  refine ro_lt (r_mulw rfl rfl) rfl ?_
  refine ro_lt (r_mv (v := iv j) rfl) rfl ?_
  refine ro_lt (r_addw rfl rfl) rfl ?_
  replace h := grd_some h; obtain ⟨g17, h⟩ := h
  refine ro_lt (r_ia (r_s1.sub HS.sub) sl25 g17.1 g17.2 rfl rfl) rfl ?_
  refine ro_lt (r_ld ((r_s1.int g17.1 g17.2).sub HS.sub) sc3 rfl) rfl ?_
  refine ro_lt (r_as (v := iv (s.2.getD (wi ((wi (i * (s.1.length : Int))) + j)).toNat 0)) rfl) rfl ?_
  refine RO.nil (nx ?_)
  obtain rfl := Option.some.inj h
  refine ex_ret ?_
  exact ret1 (.inr rfl) rfl rfl (P1.of_flat HS hs rfl)
theorem c_impl_JoinOf {w : World} {a : Int} {b : Int} {r : Int} (h : F_impl_JoinOf a b = some r) : Calls Try.prog 147 [iv a, iv b].toArray w (P1 (.int .i64) w r) := by
  unfold F_impl_JoinOf at h
  have HS := St.init w
  have hs := Sub.refl (hp w)
  refine calls_ex (n := 14) Try.func147 rfl Try.ntmps147 (Nat.le_of_ble_eq_true rfl) ?_
  refine ex_seq ?_
  refine ex_region ?_
  refine ro_lt (r_as (v := iv 0) rfl) rfl ?_
  refine RO.nil (nx ?_)
  refine ex_seq ?_
  refine ex_seq ?_
  refine ex_region ?_
  refine ro_lt (r_mv (v := iv a) rfl) rfl ?_
  refine ro_lt (r_mv (v := iv b) rfl) rfl ?_
  refine ro_lt (r_neq rfl rfl) rfl ?_
  refine ro_lt (r_mv (v := .bool ((!(decide (a = b))))) rfl) rfl ?_
  replace h := ite_some h; rcases h with ⟨c1, h⟩ | ⟨c1, h⟩
  rotate_left
  · refine ro_off (sb (congrArg (!·) (decide_eq_false c1))) rfl rfl ?_
    refine ro_off (sb (congrArg (!·) (decide_eq_false c1))) rfl rfl ?_
    refine ro_off (sb (congrArg (!·) (decide_eq_false c1))) rfl rfl ?_
    refine ro_lt (r_pickt (v := .bool true) (congrArg (!·) (decide_eq_false c1)) rfl rfl) rfl ?_
    refine RO.nil (nx ?_)
    refine ex_if_t rfl (rfl) ?_
    refine ex_seq ?_
    refine ex_region ?_
    refine ro_lt (r_as (v := iv 1) rfl) rfl ?_
    refine RO.nil (nx ?_)
    obtain rfl := Option.some.inj h
    refine ex_ret (tq_ret ?_)
    exact ret1 (.inr rfl) rfl rfl (P1.of_flat HS hs rfl)
  refine ro_on (sb (congrArg (!·) (decide_eq_true c1))) ?_
  refine ro_lt (r_mv (v := iv a) rfl) rfl ?_
  replace h := bind_some h; obtain ⟨y2, e3, h⟩ := h
  refine ro_on (sb (congrArg (!·) (decide_eq_true c1))) ?_
  refine ro_hy (o_cf (vs := [iv a]) HS rfl (c_impl_IsTruth e3) cf103 rfl) rfl ?_
  rintro _ w4 ⟨rfl, hb, HS⟩
  refine ro_on (sb (congrArg (!·) (decide_eq_true c1))) ?_
  refine ro_lt (r_not rfl) rfl ?_
  refine ro_lt (r_pickf (v := .bool ((!y2))) (congrArg (!·) (decide_eq_true c1)) rfl rfl) rfl ?_
  refine RO.nil (nx ?_)
  replace h := ite_some h; rcases h with ⟨c5, h⟩ | ⟨c5, h⟩
  rotate_left
  · refine ex_if_t rfl (congrArg (!·) (bf c5)) ?_
    refine ex_seq ?_
    refine ex_region ?_
    refine ro_lt (r_as (v := iv 1) rfl) rfl ?_
    refine RO.nil (nx ?_)
    obtain rfl := Option.some.inj h
    refine ex_ret (tq_ret ?_)
    exact ret1 (.inr rfl) rfl rfl (P1.of_flat HS hs rfl)
  refine ex_if_f rfl (congrArg (!·) (c5)) ?_
  refine ex_skip (nx ?_)
  refine ex_seq ?_
  refine ex_region ?_
  refine ro_lt (r_mv (v := iv a) rfl) rfl ?_
  refine ro_lt (r_as (v := iv a) rfl) rfl ?_
  refine RO.nil (nx ?_)
  obtain rfl := Option.some.inj h
  refine ex_ret ?_
  exact ret1 (.inr rfl) rfl rfl (P1.of_flat HS hs rfl)
theorem c_impl_joinNext {w : World} {s : (List (List Int × List Int × Int × Int)) × List Int} {v_s0 : Value} {v_s1 : Value} {from_1 : List Int} {v_from_1 : Value} {to : List Int} {v_to : Value} (r_s0 : Rd (.sl 72 (.prod (.sl 3 (.int .i64)) (.prod (.sl 3 (.int .i64)) (.prod (.int .i64) (.int .i64))))) (hp w) s.1 [v_s0]) (r_s1 : Rd (.sl 3 (.int .i64)) (hp w) s.2 [v_s1]) (r_from_1 : Rd (.sl 3 (.int .i64)) (hp w) from_1 [v_from_1]) (r_to : Rd (.sl 3 (.int .i64)) (hp w) to [v_to]) {r : Int} (h : F_impl_joinNext s from_1 to = some r) : Calls Try.prog 94 [.agg #[v_s0, v_s1], v_from_1, v_to].toArray w (P1 (.int .i64) w r) := by
  unfold F_impl_joinNext at h
  have HS := St.init w
  have hs := Sub.refl (hp w)
  refine calls_ex (n := 41) Try.func94 rfl Try.ntmps94 (Nat.le_of_ble_eq_true rfl) ?_
  refine ex_seq ?_
  refine ex_region ?_
  refine ro_hy (o_boxz HS (cs := [v_s0, v_s1]) rfl rfl) rfl ?_
  rintro _ w2 ⟨g1, H5, rfl, q3, l4, hb, HS⟩
  replace r_s0 := r_s0.sub q3
  replace r_s1 := r_s1.sub q3
  replace r_from_1 := r_from_1.sub q3
  replace r_to := r_to.sub q3
  replace hs := hs.trans q3
  refine ro_lt (r_as (v := iv 0) rfl) rfl ?_
  refine RO.nil (nx ?_)
  refine ex_seq ?_
  refine ex_dr (Mm H5 []) (fun _ => True) [0, 0, 2, 6, 0, 16, 48, 127, 255] [7] (.op 0 (.op 1 (.op 2 (.op 3 (.op 4 (.op 5 (.op 6 (.op 7 (.op 8 .nil))))))))) mix (by kernel_rfl) (by kernel_rfl) ?_
  intro w6 hw hb; have HS := HS.ext hb; clear hw hb
  refine RT.lt rfl rfl rfl rfl (fun w' k => r_lda (l4.kp HS.sub k.kp (mh rfl)) ag27 rfl rfl) ?_
  refine RT.lt rfl rfl rfl rfl (fun w' k => r_mv (v := v_from_1) rfl) ?_
  replace h := grd_some h; obtain ⟨g7, h⟩ := h
  refine RT.lt rfl rfl rfl rfl (fun w' k => r_ia (r_from_1.sub HS.sub) sl25 (by omega) g7 rfl rfl) ?_
  refine RT.lt rfl rfl rfl rfl (fun w' k => r_ld ((r_from_1.int (by omega) g7).kp HS.sub k.kp (mh rfl)) sc3 rfl) ?_
  refine RT.lt rfl rfl rfl rfl (fun w' k => r_mv (v := v_to) rfl) ?_
  replace h := grd_some h; obtain ⟨g8, h⟩ := h
  refine RT.lt rfl rfl rfl rfl (fun w' k => r_ia (r_to.sub HS.sub) sl25 (by omega) g8 rfl rfl) ?_
  refine RT.lt rfl rfl rfl rfl (fun w' k => r_ld ((r_to.int (by omega) g8).kp HS.sub k.kp (mh rfl)) sc3 rfl) ?_
  replace h := bind_some h; obtain ⟨y9, e10, h⟩ := h
  refine RT.hy rfl rfl rfl rfl rfl (o_cf (vs := [.agg #[v_s0, v_s1], iv (from_1.getD (0 : Int).toNat 0), iv (to.getD (0 : Int).toNat 0)]) HS rfl (c_impl_NextOf (r_s0.sub HS.sub) (r_s1.sub HS.sub) e10) cf50 rfl) (fun _ _ ⟨_, hb, _⟩ => km_below hb (fun _ => trivial)) ?_
  rintro _ w11 ⟨rfl, hb, HS⟩
  refine RT.lt rfl rfl rfl rfl (fun w' k => r_as (v := iv y9) rfl) ?_
  refine RT.nil (nx ?_)
  refine ex_seq ?_
  refine ex_seq ?_
  refine ex_region ?_
  refine ro_lt (r_mv (v := v_from_1) rfl) rfl ?_
  have b12 := (r_from_1.sub HS.sub).big
  refine ro_lt (r_len (n := 1) (r_from_1.sub HS.sub) sl25 rfl) rfl ?_
  refine ro_lt (r_mv (v := iv 0) rfl) rfl ?_
  refine RO.nil (nx ?_)
  replace h := bind_some h; obtain ⟨y42, e43, h⟩ := h
  refine ex_lbo (fun (st : Int × Int) s' w' => Has s' [(2, v_to), (3, .pointer (some ⟨g1, 0, none⟩)), (6, iv 0), (7, iv st.1), (20, v_from_1), (21, iv ((from_1.length : Int))), (22, iv st.2)] ∧ St w H5 w' []) e43 ⟨⟨rfl, rfl, rfl, rfl, rfl, rfl, rfl, trivial⟩, HS⟩ ?_ ?_
  · rintro ⟨out_19, i20⟩ c' s' w21 ⟨hs_, HS⟩ h
    rw [has_put hs_]; clear hs_
    try dsimp only at HS
    replace h : F_impl_joinNext_b2 from_1 to s out_19 i20 = some c' := h
    unfold F_impl_joinNext_b2 at h
    refine ex_seq ?_
    refine ex_region ?_
    refine ro_lt (r_lss rfl rfl) rfl ?_
    refine RO.nil (nx ?_)
    refine ex_seq ?_
    replace h := ite_some h; rcases h with ⟨c22, h⟩ | ⟨c22, h⟩
    rotate_left
    · refine ex_if_f rfl (decide_eq_false c22) ?_
      refine ex_exit (tq_exit ?_)
      obtain rfl := Option.some.inj h
      exact lq_out ⟨⟨rfl, rfl, rfl, rfl, rfl, rfl, rfl, trivial⟩, HS⟩
    refine ex_if_t rfl (decide_eq_true c22) ?_
    refine ex_skip (nx ?_)
    refine ex_seq ?_
    refine ex_block ?_
    refine ex_seq ?_
    refine ex_region ?_
    replace h := grd_some h; obtain ⟨g23, h⟩ := h
    refine ro_lt (r_ia (r_from_1.sub HS.sub) sl25 g23.1 g23.2 rfl rfl) rfl ?_
    refine ro_lt (r_ld ((r_from_1.int g23.1 g23.2).sub HS.sub) sc3 rfl) rfl ?_
    refine ro_lt (r_as (v := iv (from_1.getD i20.toNat 0)) rfl) rfl ?_
    refine RO.nil (nx ?_)
    refine ex_seq ?_
    refine ex_region ?_
    refine ro_lt (r_mv (v := v_to) rfl) rfl ?_
    have b24 := (r_to.sub HS.sub).big
    refine ro_lt (r_len (n := 1) (r_to.sub HS.sub) sl25 rfl) rfl ?_
    refine ro_lt (r_mv (v := iv 0) rfl) rfl ?_
    refine RO.nil (nx ?_)
    replace h := bind_some h; obtain ⟨y38, e39, h⟩ := h
    refine ex_lbo (fun (st : Int × Int) s' w' => Has s' [(2, v_to), (3, .pointer (some ⟨g1, 0, none⟩)), (6, iv 0), (7, iv st.1), (9, iv (from_1.getD i20.toNat 0)), (20, v_from_1), (21, iv ((from_1.length : Int))), (22, iv i20), (26, v_to), (27, iv ((to.length : Int))), (28, iv st.2)] ∧ St w H5 w' []) e39 ⟨⟨rfl, rfl, rfl, rfl, rfl, rfl, rfl, rfl, rfl, rfl, rfl, trivial⟩, HS⟩ ?_ ?_
    · rintro ⟨out_27, i28⟩ c' s' w29 ⟨hs_, HS⟩ h
      rw [has_put hs_]; clear hs_
      try dsimp only at HS
      replace h : F_impl_joinNext_b1 to s from_1 i20 out_27 i28 = some c' := h
      unfold F_impl_joinNext_b1 at h
      refine ex_seq ?_
      refine ex_region ?_
      refine ro_lt (r_lss rfl rfl) rfl ?_
      refine RO.nil (nx ?_)
      refine ex_seq ?_
      replace h := ite_some h; rcases h with ⟨c30, h⟩ | ⟨c30, h⟩
      rotate_left
      · refine ex_if_f rfl (decide_eq_false c30) ?_
        refine ex_exit (tq_exit ?_)
        obtain rfl := Option.some.inj h
        exact lq_out ⟨⟨rfl, rfl, rfl, rfl, rfl, rfl, rfl, rfl, rfl, rfl, rfl, trivial⟩, HS⟩
      refine ex_if_t rfl (decide_eq_true c30) ?_
      refine ex_skip (nx ?_)
      refine ex_seq ?_
      refine ex_block ?_
      refine ex_seq ?_
      refine ex_region ?_
      replace h := grd_some h; obtain ⟨g31, h⟩ := h
      refine ro_lt (r_ia (r_to.sub HS.sub) sl25 g31.1 g31.2 rfl rfl) rfl ?_
      refine ro_lt (r_ld ((r_to.int g31.1 g31.2).sub HS.sub) sc3 rfl) rfl ?_
      refine ro_lt (r_as (v := iv (to.getD i28.toNat 0)) rfl) rfl ?_
      refine RO.nil (nx ?_)
      refine ex_region ?_
      refine ro_lt (r_mv (v := iv out_27) rfl) rfl ?_
      refine ro_lt (r_lda (l4.sub HS.sub) ag27 rfl rfl) rfl ?_
      refine ro_lt (r_mv (v := iv (from_1.getD i20.toNat 0)) rfl) rfl ?_
      refine ro_lt (r_mv (v := iv (to.getD i28.toNat 0)) rfl) rfl ?_
      replace h := bind_some h; obtain ⟨y32, e33, h⟩ := h
      refine ro_hy (o_cf (vs := [.agg #[v_s0, v_s1], iv (from_1.getD i20.toNat 0), iv (to.getD i28.toNat 0)]) HS rfl (c_impl_NextOf (r_s0.sub HS.sub) (r_s1.sub HS.sub) e33) cf50 rfl) rfl ?_
      rintro _ w34 ⟨rfl, hb, HS⟩
      replace h := bind_some h; obtain ⟨y35, e36, h⟩ := h
      refine ro_hy (o_cf (vs := [iv out_27, iv y32]) HS rfl (c_impl_JoinOf e36) cf147 rfl) rfl ?_
      rintro _ w37 ⟨rfl, hb, HS⟩
      refine ro_lt (r_as (v := iv y35) rfl) rfl ?_
      refine RO.nil (blk_nx (nx ?_))
      refine ex_region ?_
      refine ro_lt (r_addw rfl rfl) rfl ?_
      refine ro_lt (r_mv (v := iv (wi (i28 + 1))) rfl) rfl ?_
      refine RO.nil ?_
      obtain rfl := Option.some.inj h
      exact lq_go ⟨⟨rfl, rfl, rfl, rfl, rfl, rfl, rfl, rfl, rfl, rfl, rfl, trivial⟩, HS⟩
    rintro s' w40 ⟨hs_, HS⟩
    rw [has_put hs_]; clear hs_
    refine (blk_nx (nx ?_))
    refine ex_region ?_
    refine ro_lt (r_addw rfl rfl) rfl ?_
    refine ro_lt (r_mv (v := iv (wi (i20 + 1))) rfl) rfl ?_
    refine RO.nil ?_
    obtain rfl := Option.some.inj h
    exact lq_go ⟨⟨rfl, rfl, rfl, rfl, rfl, rfl, rfl, trivial⟩, HS⟩
  rintro s' w44 ⟨hs_, HS⟩
  rw [has_put hs_]; clear hs_
  refine (nx ?_)
  refine ex_seq ?_
  refine ex_region ?_
  refine ro_lt (r_mv (v := iv y42.1) rfl) rfl ?_
  refine ro_lt (r_as (v := iv y42.1) rfl) rfl ?_
  refine RO.nil (nx ?_)
  obtain rfl := Option.some.inj h
  refine ex_ret ?_
  exact ret1 (.inr rfl) rfl rfl (P1.of_flat HS hs rfl)
theorem c_impl_Blur {w : World} {s : (List (List Int × List Int × Int × Int)) × List Int} {v_s0 : Value} {v_s1 : Value} (r_s0 : Rd (.sl 72 (.prod (.sl 3 (.int .i64)) (.prod (.sl 3 (.int .i64)) (.prod (.int .i64) (.int .i64))))) (hp w) s.1 [v_s0]) (r_s1 : Rd (.sl 3 (.int .i64)) (hp w) s.2 [v_s1]) {r : ((List (List Int × List Int × Int × Int)) × List Int)} (h : F_impl_Blur s = some r) : Calls Try.prog 34 [.agg #[v_s0, v_s1]].toArray w (P1 (.prod (.sl 72 (.prod (.sl 3 (.int .i64)) (.prod (.sl 3 (.int .i64)) (.prod (.int .i64) (.int .i64))))) (.sl 3 (.int .i64))) w r) := by
  unfold F_impl_Blur at h
  have HS := St.init w
  have hs := Sub.refl (hp w)
  refine calls_ex (n := 126) Try.func34 rfl Try.ntmps34 (Nat.le_of_ble_eq_true rfl) ?_
  refine ex_seq ?_
  refine ex_region ?_
  refine ro_hy (o_boxz HS (cs := [v_s0, v_s1]) rfl rfl) rfl ?_
  rintro _ w2 ⟨g1, H5, rfl, q3, l4, hb, HS⟩
  replace r_s0 := r_s0.sub q3
  replace r_s1 := r_s1.sub q3
  replace hs := hs.trans q3
  refine ro_hy (o_alloc HS (cs := [.slice none 0 0, .slice none 0 0]) ze27 rfl) rfl ?_
  rintro _ w7 ⟨g6, rfl, hb, HS⟩
  refine RO.nil (nx ?_)
  refine ex_seq ?_
  refine ex_block ?_
  refine ex_seq ?_
  refine ex_region ?_
  refine ro_lt (r_fa (l4.sub HS.sub) fd27_0 rfl) rfl ?_
  refine ro_lt (r_ld ((l4.seg 0 1).sub HS.sub) sc24 rfl) rfl ?_
  have b9 := (r_s0.sub HS.sub).big
  refine ro_lt (r_len (n := 4) (r_s0.sub HS.sub) sl24 rfl) rfl ?_
  refine ro_lt (r_eql rfl rfl) rfl ?_
  refine ro_lt (r_as (v := .bool ((decide ((s.1.length : Int) = 0)))) rfl) rfl ?_
  refine RO.nil (nx ?_)
  replace h := ite_some h; rcases h with ⟨c10, h⟩ | ⟨c10, h⟩
  · refine ex_if_t rfl (decide_eq_true c10) ?_
    refine ex_seq ?_
    refine ex_region ?_
    refine ro_lt (r_bld (cells := [.slice none 0 0, .slice none 0 0]) bz27 rfl vp0 rfl) rfl ?_
    refine ro_hy (o_str (off := 0) (vs := [.slice none 0 0, .slice none 0 0]) (l' := [.slice none 0 0, .slice none 0 0]) HS rfl rfl rfl st27 rfl rfl (pl rfl (pl rfl pl0)) rfl) rfl ?_
    rintro _ w11 ⟨rfl, hk, HS⟩
    refine RO.nil (nx ?_)
    obtain rfl := Option.some.inj h
    refine ex_ret (blk_ret (tq_ret ?_))
    exact ret1 (.inr rfl) rfl (rv_box HS (i := 0) rfl rfl ag27 rfl) (P1.of (((HS.nil 3 (.int .i64)).nil 72 (.prod (.sl 3 (.int .i64)) (.prod (.sl 3 (.int .i64)) (.prod (.int .i64) (.int .i64))))).join) hs)
  refine ex_if_f rfl (decide_eq_false c10) ?_
  refine ex_seq ?_
  refine ex_dr (Mm H5 []) (fun _ => True) [0, 1, 0, 7, 15, 31] [1, 3] (.op 0 (.op 2 (.op 1 (.op 3 (.op 4 (.op 5 .nil)))))) mix (by kernel_rfl) (by kernel_rfl) ?_
  intro w16 hw hb; have HS := HS.ext hb; clear hw hb
  refine RT.lt rfl rfl rfl rfl (fun w' k => r_lda (l4.kp HS.sub k.kp (mh rfl)) ag27 rfl rfl) ?_
  refine RT.lt rfl rfl rfl rfl (fun w' k => r_lda (l4.kp HS.sub k.kp (mh rfl)) ag27 rfl rfl) ?_
  replace h := bind_some h; obtain ⟨y17, e18, h⟩ := h
  refine RT.hy rfl rfl rfl rfl rfl (o_cf (vs := [.agg #[v_s0, v_s1]]) HS rfl (c_impl_variables (r_s0.sub HS.sub) (r_s1.sub HS.sub) e18) cf48 rfl) (fun _ _ ⟨_, hb, _⟩ => km_below hb (fun _ => trivial)) ?_
  rintro _ w19 ⟨rfl, hb, HS⟩
  replace h := bind_some h; obtain ⟨y20, e21, h⟩ := h
  refine RT.hy rfl rfl rfl rfl rfl (o_cf (vs := [iv y17, .agg #[v_s0, v_s1]]) HS rfl (c_impl_IsStructure (r_s0.sub HS.sub) (r_s1.sub HS.sub) e21) cf47 rfl) (fun _ _ ⟨_, hb, _⟩ => km_below hb (fun _ => trivial)) ?_
  rintro _ w22 ⟨rfl, hb, HS⟩
  refine RT.lt rfl rfl rfl rfl (fun w' k => r_not rfl) ?_
  refine RT.lt rfl rfl rfl rfl (fun w' k => r_as (v := .bool ((!y20))) rfl) ?_
  refine RT.nil (nx ?_)
  replace h := ite_some h; rcases h with ⟨c23, h⟩ | ⟨c23, h⟩
  rotate_left
  · refine ex_if_t rfl (congrArg (!·) (bf c23)) ?_
    refine ex_seq ?_
    refine ex_region ?_
    refine ro_lt (r_lda (l4.sub HS.sub) ag27 rfl rfl) rfl ?_
    replace h := bind_some h; obtain ⟨y899, e900, h⟩ := h
    refine ro_hy (o_c1 (vs := [.agg #[v_s0, v_s1]]) HS (c_Str_own (r_s0.sub HS.sub) (r_s1.sub HS.sub) e900) cf49 rfl) rfl ?_
    rintro _ w901 ⟨cs902, rfl, hb, HS⟩
    replace HS := st_K27 HS
    obtain ⟨v904, v906, rfl, HS⟩ := HS
    refine ro_hy (o_str (off := 0) (vs := [v904, v906]) (l' := [v904, v906]) (HS.sel (G := [_, _, _]) [2] 0 rfl) rfl rfl rfl st27 rfl rfl (pl (HS.rd 0 rfl).pl (pl (HS.rd 1 rfl).pl pl0)) rfl) rfl ?_
    rintro _ w907 ⟨rfl, hk, HS⟩
    refine RO.nil (nx ?_)
    obtain rfl := Option.some.inj h
    refine ex_ret (blk_ret (tq_ret ?_))
    exact ret1 (.inr rfl) rfl (rv_box HS (i := 0) rfl rfl ag27 rfl) (P1.of (((HS.sel (G := [_, _, _]) [2] 0 rfl).sel (G := [_, _, _]) [2] 0 rfl).join) hs)
  refine ex_if_f rfl (congrArg (!·) (c23)) ?_
  refine ex_skip (blk_nx (nx ?_))
  refine ex_seq ?_
  refine ex_region ?_
  refine ro_hy (o_mkmap (ei := 3) HS) rfl ?_
  rintro _ w25 ⟨g24, rfl, hb, HS⟩
  refine ro_hy (o_bsv HS (cs := []) sl102 zz9 (vs := []) rfl rfl vc0 rfl rfl (by decide)) rfl ?_
  rintro _ w28 ⟨g27, rfl, hb, HS⟩
  replace HS := HS.lit0 .str
  refine ro_lt (r_as (v := .map (some g24)) rfl) rfl ?_
  refine ro_lt (r_as (v := (.slice (some ⟨g27, 0, none⟩) 0 0)) rfl) rfl ?_
  refine RO.nil (nx ?_)
  refine ex_seq ?_
  refine ex_seq ?_
  refine ex_region ?_
  refine ro_lt (r_fa (l4.sub HS.sub) fd27_0 rfl) rfl ?_
  refine ro_lt (r_ld ((l4.seg 0 1).sub HS.sub) sc24 rfl) rfl ?_
  refine ro_lt (r_len (n := 4) (r_s0.sub HS.sub) sl24 rfl) rfl ?_
  refine ro_lt (r_mv (v := iv 0) rfl) rfl ?_
  refine RO.nil (nx ?_)
  replace h := bind_some h; obtain ⟨y84, e85, h⟩ := h
  refine ex_lbo (fun (st : Grp × (List ByteArray) × Int) s' w' => ∃ sh41 : ByteArray → Value, ∃ v44 : Value, Has s' [(1, .pointer (some ⟨g1, 0, none⟩)), (2, .pointer (some ⟨g6, 0, none⟩)), (3, .map (some g24)), (4, v44), (33, iv ((s.1.length : Int))), (34, iv st.2.2)] ∧ St w H5 w' [.ow (.sl 9 .str) st.2.1 [v44], .pr (MP 3 g24 sh41 st.1), .bx g6 27 [.slice none 0 0, .slice none 0 0]]) e85 ⟨(fun _ => nilS), (.slice (some ⟨g27, 0, none⟩) 0 0), ⟨rfl, rfl, rfl, rfl, rfl, rfl, trivial⟩, HS⟩ ?_ ?_
  · rintro ⟨i40, list_42, i45⟩ c' s' w46 ⟨sh41, v44, hs_, HS⟩ h
    rw [has_put hs_]; clear hs_
    try dsimp only at HS
    replace h : F_impl_Blur_b1 s i40 list_42 i45 = some c' := h
    unfold F_impl_Blur_b1 at h
    refine ex_seq ?_
    refine ex_region ?_
    refine ro_lt (r_lss rfl rfl) rfl ?_
    refine RO.nil (nx ?_)
    refine ex_seq ?_
    replace h := ite_some h; rcases h with ⟨c47, h⟩ | ⟨c47, h⟩
    rotate_left
    · refine ex_if_f rfl (decide_eq_false c47) ?_
      refine ex_exit (tq_exit ?_)
      obtain rfl := Option.some.inj h
      exact lq_out ⟨sh41, v44, ⟨rfl, rfl, rfl, rfl, rfl, rfl, trivial⟩, HS⟩
    refine ex_if_t rfl (decide_eq_true c47) ?_
    refine ex_skip (nx ?_)
    refine ex_seq ?_
    refine ex_block ?_
    refine ex_seq ?_
    refine ex_region ?_
    refine ro_lt (r_mv (v := iv i45) rfl) rfl ?_
    refine ro_lt (r_as (v := iv i45) rfl) rfl ?_
    refine RO.nil (nx ?_)
    refine ex_seq ?_
    refine ex_region ?_
    refine ro_lt (r_lda (l4.sub HS.sub) ag27 rfl rfl) rfl ?_
    refine ro_lt (r_mv (v := iv i45) rfl) rfl ?_
    replace h := bind_some h; obtain ⟨y48, e49, h⟩ := h
    refine ro_hy (o_cf (vs := [.agg #[v_s0, v_s1], iv i45]) HS rfl (c_NodeName (r_s0.sub HS.sub) (r_s1.sub HS.sub) e49) cf90 rfl) rfl ?_
    rintro _ w50 ⟨rfl, hb, HS⟩
    refine ro_lt (r_as (v := .string y48) rfl) rfl ?_
    refine RO.nil (nx ?_)
    refine ex_seq ?_
    refine ex_seq ?_
    refine ex_region ?_
    refine ro_lt (r_mv (v := .map (some g24)) rfl) rfl ?_
    refine ro_lt (r_mv (v := .string y48) rfl) rfl ?_
    refine ro_lt (r_lkp (HS.mf 1 rfl) mt101 rfl rfl) rfl ?_
    refine ro_lt (r_mnil HS (i := 1) rfl isx25 rfl rfl) rfl ?_
    refine RO.nil (nx ?_)
    replace h := ite_some h; rcases h with ⟨c51, h⟩ | ⟨c51, h⟩
    rotate_left
    · refine ex_if_f rfl (decide_eq_false c51) ?_
      refine ex_skip (nx ?_)
      refine ex_region ?_
      refine ro_lt (r_mv (v := .map (some g24)) rfl) rfl ?_
      refine ro_lt (r_mv (v := .string y48) rfl) rfl ?_
      refine ro_lt (r_mv (v := .map (some g24)) rfl) rfl ?_
      refine ro_lt (r_mv (v := .string y48) rfl) rfl ?_
      refine ro_lt (r_lkp (HS.mf 1 rfl) mt101 rfl rfl) rfl ?_
      refine ro_lt (r_mv (v := iv i45) rfl) rfl ?_
      refine ro_hy (o_bsv HS (cs := [iv i45]) sl25 zz3 (vs := [iv i45]) rfl rfl (vc rfl vc0) rfl rfl (by decide)) rfl ?_
      rintro _ w73 ⟨g72, rfl, hb, HS⟩
      replace h := grd_some h; obtain ⟨g75, h⟩ := h
      refine ro_hy (o_appf (t := (.int .i64)) (((HS.sel (G := [_, _, _, _]) [2] 0 rfl).mopn y48).sel (G := [_, _, _, _, _]) [0, 1] 0 rfl) rfl rfl rfl rfl sl25 zz3 g75) rfl ?_
      rintro v78 w79 ⟨HS, hk⟩
      refine ro_hy (o_mput (xs := (mget i40 y48) ++ [i45]) HS (by simp) mt101 rfl rfl rfl) rfl ?_
      rintro _ w82 ⟨rfl, hk, HS⟩
      refine RO.nil (blk_nx (nx ?_))
      refine ex_region ?_
      refine ro_lt (r_addw rfl rfl) rfl ?_
      refine ro_lt (r_mv (v := iv (wi (i45 + 1))) rfl) rfl ?_
      refine RO.nil ?_
      obtain rfl := Option.some.inj h
      exact lq_go ⟨(mupd sh41 y48 v78), v44, ⟨rfl, rfl, rfl, rfl, rfl, rfl, trivial⟩, (HS.sel (G := [_, _, _]) [1, 0, 0] 0 rfl)⟩
    refine ex_if_t rfl (decide_eq_true c51) ?_
    refine ex_region ?_
    refine ro_lt (r_mv (v := v44) rfl) rfl ?_
    refine ro_lt (r_mv (v := .string y48) rfl) rfl ?_
    refine ro_hy (o_bsv HS (cs := [.string y48]) sl102 zz9 (vs := [.string y48]) rfl rfl (vc rfl vc0) rfl rfl (by decide)) rfl ?_
    rintro _ w53 ⟨g52, rfl, hb, HS⟩
    replace h := grd_some h; obtain ⟨g55, h⟩ := h
    refine ro_hy (o_appf (HS.sel (G := [_, _, _, _]) [1] 0 rfl) rfl rfl rfl rfl sl102 zz9 g55) rfl ?_
    rintro v57 w58 ⟨HS, hk⟩
    refine ro_lt (r_as (v := v57) rfl) rfl ?_
    refine RO.nil (nx ?_)
    refine ex_region ?_
    refine ro_lt (r_mv (v := .map (some g24)) rfl) rfl ?_
    refine ro_lt (r_mv (v := .string y48) rfl) rfl ?_
    refine ro_lt (r_mv (v := .map (some g24)) rfl) rfl ?_
    refine ro_lt (r_mv (v := .string y48) rfl) rfl ?_
    refine ro_lt (r_lkp (HS.mf 1 rfl) mt101 rfl rfl) rfl ?_
    refine ro_lt (r_mv (v := iv i45) rfl) rfl ?_
    refine ro_hy (o_bsv HS (cs := [iv i45]) sl25 zz3 (vs := [iv i45]) rfl rfl (vc rfl vc0) rfl rfl (by decide)) rfl ?_
    rintro _ w61 ⟨g60, rfl, hb, HS⟩
    replace h := grd_some h; obtain ⟨g63, h⟩ := h
    refine ro_hy (o_appf (t := (.int .i64)) (((HS.sel (G := [_, _, _, _]) [2] 0 rfl).mopn y48).sel (G := [_, _, _, _, _]) [0, 1] 0 rfl) rfl rfl rfl rfl sl25 zz3 g63) rfl ?_
    rintro v66 w67 ⟨HS, hk⟩
    refine ro_hy (o_mput (xs := (mget i40 y48) ++ [i45]) HS (by simp) mt101 rfl rfl rfl) rfl ?_
    rintro _ w70 ⟨rfl, hk, HS⟩
    refine RO.nil (blk_nx (nx ?_))
    refine ex_region ?_
    refine ro_lt (r_addw rfl rfl) rfl ?_
    refine ro_lt (r_mv (v := iv (wi (i45 + 1))) rfl) rfl ?_
    refine RO.nil ?_
    obtain rfl := Option.some.inj h
    exact lq_go ⟨(mupd sh41 y48 v66), v57, ⟨rfl, rfl, rfl, rfl, rfl, rfl, trivial⟩, (HS.sel (G := [_, _, _]) [1, 0, 0] 0 rfl)⟩
  rintro s' w86 ⟨sh41, v44, hs_, HS⟩
  rw [has_put hs_]; clear hs_
  refine (nx ?_)
  refine ex_seq ?_
  refine ex_region ?_
  refine ro_lt (r_mv (v := v44) rfl) rfl ?_
  replace h := bind_some h; obtain ⟨y94, e95, h⟩ := h
  refine ro_hy (o_cs (vs := [v44, .func (.func 92) #[] #[]]) (c_slices_SortFunc_string_string HS.self ⟨92, [], [], rfl, cf92, by intro w' x88 x89 c90 c92 r' hs' r91 r93 hx; obtain rfl := r91; obtain rfl := r93; exact c_strings_Compare  hx⟩ e95) cf91 rfl) rfl ?_
  rintro _ w96 ⟨rfl, HS2⟩
  replace HS := HS.from HS2
  refine RO.nil (nx ?_)
  refine ex_seq ?_
  refine ex_region ?_
  refine ro_lt (r_bld (cells := [.slice none 0 0, .slice none 0 0]) bz27 rfl vp0 rfl) rfl ?_
  refine ro_hy (o_alloc HS (cs := [.slice none 0 0, .slice none 0 0]) ze27 rfl) rfl ?_
  rintro _ w99 ⟨g98, rfl, hb, HS⟩
  refine ro_hy (o_str (off := 0) (vs := [.slice none 0 0, .slice none 0 0]) (l' := [.slice none 0 0, .slice none 0 0]) HS rfl rfl rfl st27 rfl rfl (pl rfl (pl rfl pl0)) rfl) rfl ?_
  rintro _ w101 ⟨rfl, hk, HS⟩
  refine RO.nil (nx ?_)
  refine ex_seq ?_
  refine ex_seq ?_
  refine ex_region ?_
  refine ro_lt (r_mv (v := v44) rfl) rfl ?_
  have b103 := (HS.rd 1 rfl).big
  refine ro_lt (r_len (n := 1) (HS.rd 1 rfl) sl102 rfl) rfl ?_
  refine ro_lt (r_mv (v := iv 0) rfl) rfl ?_
  refine RO.nil (nx ?_)
  replace h := bind_some h; obtain ⟨y890, e891, h⟩ := h
  refine ex_lbo (fun (st : (List (List Int × List Int × Int × Int)) × (List Int) × Int) s' w' => ∃ v117 : Value, ∃ v120 : Value, Has s' [(1, .pointer (some ⟨g1, 0, none⟩)), (2, .pointer (some ⟨g6, 0, none⟩)), (3, .map (some g24)), (4, v44), (7, .pointer (some ⟨g98, 0, none⟩)), (60, v44), (61, iv ((y94.length : Int))), (62, iv st.2.2)] ∧ St w H5 w' [.ow (.sl 3 (.int .i64)) st.2.1 [v120], .ow (.sl 72 (.prod (.sl 3 (.int .i64)) (.prod (.sl 3 (.int .i64)) (.prod (.int .i64) (.int .i64))))) st.1 [v117], .bx g98 27 [v117, v120], .ow (.sl 9 .str) y94 [v44], .pr (MP 3 g24 sh41 y84.1), .bx g6 27 [.slice none 0 0, .slice none 0 0]]) e891 ⟨.slice none 0 0, .slice none 0 0, ⟨rfl, rfl, rfl, rfl, rfl, rfl, rfl, rfl, trivial⟩, (((HS.nil 3 (.int .i64)).nil 72 (.prod (.sl 3 (.int .i64)) (.prod (.sl 3 (.int .i64)) (.prod (.int .i64) (.int .i64))))).sel (G := [_, _, _, _, _, _]) [1, 0, 0, 0, 0, 0] 0 rfl)⟩ ?_ ?_
  · rintro ⟨i115, i118, i121⟩ c' s' w122 ⟨v117, v120, hs_, HS⟩ h
    rw [has_put hs_]; clear hs_
    try dsimp only at HS
    replace h : F_impl_Blur_b4 y94 y84 s i115 i118 i121 = some c' := h
    unfold F_impl_Blur_b4 at h
    refine ex_seq ?_
    refine ex_region ?_
    refine ro_lt (r_lss rfl rfl) rfl ?_
    refine RO.nil (nx ?_)
    refine ex_seq ?_
    replace h := ite_some h; rcases h with ⟨c123, h⟩ | ⟨c123, h⟩
    rotate_left
    · refine ex_if_f rfl (decide_eq_false c123) ?_
      refine ex_exit (tq_exit ?_)
      obtain rfl := Option.some.inj h
      exact lq_out ⟨v117, v120, ⟨rfl, rfl, rfl, rfl, rfl, rfl, rfl, rfl, trivial⟩, HS⟩
    refine ex_if_t rfl (decide_eq_true c123) ?_
    refine ex_skip (nx ?_)
    refine ex_seq ?_
    refine ex_block ?_
    refine ex_seq ?_
    refine ex_region ?_
    replace h := grd_some h; obtain ⟨g124, h⟩ := h
    refine ro_lt (r_ia (HS.rd 3 rfl) sl102 g124.1 g124.2 rfl rfl) rfl ?_
    refine ro_lt (r_ld ((HS.rd 3 rfl).strE g124.1 g124.2) sc9 rfl) rfl ?_
    refine ro_lt (r_as (v := .string (y94.getD i121.toNat ByteArray.empty)) rfl) rfl ?_
    refine RO.nil (nx ?_)
    refine ex_seq ?_
    refine ex_dr (Mm H5 [4, 6]) (fun _ => True) [0, 1, 0, 0, 12, 28, 60, 127, 255, 511, 0, 2047] [9, 10, 11] (.op 0 (.op 1 (.op 2 (.op 3 (.op 4 (.op 5 (.op 6 (.op 7 (.op 8 (.alts (.br 9 (.op 10 (.op 11 .nil)) (.br 10 (.op 9 (.op 11 .nil)) .stop)))))))))))) mix (by kernel_rfl) (by kernel_rfl) ?_
    intro w125 hw hb; have HS := HS.ext hb; clear hw hb
    refine RT.lt rfl rfl rfl rfl (fun w' k => r_fa (l4.sub HS.sub) fd27_0 rfl) ?_
    refine RT.lt rfl rfl rfl rfl (fun w' k => r_ld ((l4.seg 0 1).kp HS.sub k.kp (mh rfl)) sc24 rfl) ?_
    refine RT.lt rfl rfl rfl rfl (fun w' k => r_mv (v := .map (some g24)) rfl) ?_
    refine RT.lt rfl rfl rfl rfl (fun w' k => r_mv (v := .string (y94.getD i121.toNat ByteArray.empty)) rfl) ?_
    refine RT.lt rfl rfl rfl rfl (fun w' k => r_lkp ((HS.mf 4 rfl).k0 (k.kp.none rfl)) mt101 rfl rfl) ?_
    replace h := grd_some h; obtain ⟨g126, h⟩ := h
    refine RT.lt rfl rfl rfl rfl (fun w' k => r_ia (HS.mrd (y94.getD i121.toNat ByteArray.empty) 4 rfl) sl25 (by omega) g126 rfl rfl) ?_
    refine RT.lt rfl rfl rfl rfl (fun w' k => r_ld (((HS.mrd (y94.getD i121.toNat ByteArray.empty) 4 rfl).int (by omega) g126).k0 (Sub.refl _) (k.kp.none rfl)) sc3 rfl) ?_
    replace h := grd_some h; obtain ⟨g127, h⟩ := h
    obtain ⟨_, q128, l129⟩ := r_s0.idx g127.1 g127.2
    obtain ⟨v130, v132, rfl, r131, r133⟩ := rd_K72 q128
    refine RT.lt rfl rfl rfl rfl (fun w' k => r_ia (r_s0.sub HS.sub) sl24 g127.1 g127.2 rfl rfl) ?_
    refine RT.lt rfl rfl rfl rfl (fun w' k => r_lda (l129.kp HS.sub k.kp (mh rfl)) ag72 rfl rfl) ?_
    replace h := bind_some h; obtain ⟨y615, e616, h⟩ := h
    refine RT.alts ?_
    refine RT.br rfl rfl rfl rfl (o_c1 (vs := [.agg #[v130, v132, iv ((((s.1.getD ((mget y84.1 (y94.getD i121.toNat ByteArray.empty)).getD (0 : Int).toNat 0).toNat (([] : List Int), ([] : List Int), 0, 0)).2).2).1), iv ((((s.1.getD ((mget y84.1 (y94.getD i121.toNat ByteArray.empty)).getD (0 : Int).toNat 0).toNat (([] : List Int), ([] : List Int), 0, 0)).2).2).2)]]) HS (c_Node_own (r131.sub HS.sub) (r133.sub HS.sub) e616) cf93 rfl) (fun _ _ ⟨_, _, hb, _⟩ => km_below hb (fun _ => trivial)) ?_ ?_
    · rintro _ w734 ⟨cs735, rfl, hb, HS⟩
      replace HS := st_K72 HS
      obtain ⟨v737, v739, rfl, HS⟩ := HS
      refine RT.hy rfl rfl rfl rfl rfl (o_alloc HS (cs := [.slice none 0 0, .slice none 0 0, iv 0, iv 0]) ze72 rfl) (fun _ _ ⟨_, _, hb, _⟩ => km_below hb (fun _ => trivial)) ?_
      rintro _ w741 ⟨g740, rfl, hb, HS⟩
      refine RT.hy rfl rfl rfl rfl rfl (o_str (off := 0) (vs := [v737, v739, iv y615.2.2.1, iv y615.2.2.2]) (l' := [v737, v739, iv y615.2.2.1, iv y615.2.2.2]) HS rfl rfl rfl st72 rfl rfl (pl (HS.rd 1 rfl).pl (pl (HS.rd 2 rfl).pl (pl rfl (pl rfl pl0)))) rfl) (fun _ _ ⟨_, hk, HS2⟩ => km_st HS (Sub.refl _) (hk (fun b => b = g740) rfl) (fun b hb => hb ▸ bx_none HS) (by kernel_rfl) (fun _ => trivial)) ?_
      rintro _ w743 ⟨rfl, hk, HS⟩
      refine RT.nil (nx ?_)
      refine ex_seq ?_
      refine ex_seq ?_
      refine ex_region ?_
      refine ro_lt (r_mv (v := .map (some g24)) rfl) rfl ?_
      refine ro_lt (r_mv (v := .string (y94.getD i121.toNat ByteArray.empty)) rfl) rfl ?_
      refine ro_lt (r_lkp (HS.mf 7 rfl) mt101 rfl rfl) rfl ?_
      have b745 := (HS.mrd (y94.getD i121.toNat ByteArray.empty) 7 rfl).big
      refine ro_lt (r_len (n := 1) (HS.mrd (y94.getD i121.toNat ByteArray.empty) 7 rfl) sl25 rfl) rfl ?_
      refine ro_lt (r_mv (v := iv 0) rfl) rfl ?_
      refine RO.nil (nx ?_)
      replace h := bind_some h; obtain ⟨y766, e767, h⟩ := h
      refine ex_lbo (fun (st : Int × Int) s' w' => Has s' [(1, .pointer (some ⟨g1, 0, none⟩)), (2, .pointer (some ⟨g6, 0, none⟩)), (3, .map (some g24)), (4, v44), (7, .pointer (some ⟨g98, 0, none⟩)), (9, .string (y94.getD i121.toNat ByteArray.empty)), (10, .pointer (some ⟨g740, 0, none⟩)), (60, v44), (61, iv ((y94.length : Int))), (62, iv i121), (78, (sh41 (y94.getD i121.toNat ByteArray.empty))), (79, iv (((mget y84.1 (y94.getD i121.toNat ByteArray.empty)).length : Int))), (80, iv st.2)] ∧ St w H5 w' [.bx g740 72 [v737, v739, iv y615.2.2.1, iv st.1], .ow (.sl 3 (.int .i64)) y615.1 [v737], .ow (.sl 3 (.int .i64)) y615.2.1 [v739], .ow (.sl 3 (.int .i64)) i118 [v120], .ow (.sl 72 (.prod (.sl 3 (.int .i64)) (.prod (.sl 3 (.int .i64)) (.prod (.int .i64) (.int .i64))))) i115 [v117], .bx g98 27 [v117, v120], .ow (.sl 9 .str) y94 [v44], .pr (MP 3 g24 sh41 y84.1), .bx g6 27 [.slice none 0 0, .slice none 0 0]]) e767 ⟨⟨rfl, rfl, rfl, rfl, rfl, rfl, rfl, rfl, rfl, rfl, rfl, rfl, rfl, trivial⟩, HS⟩ ?_ ?_
      · rintro ⟨i748, i749⟩ c' s' w750 ⟨hs_, HS⟩ h
        rw [has_put hs_]; clear hs_
        try dsimp only at HS
        replace h : F_impl_Blur_b2 y84 y94 i121 s i748 i749 = some c' := h
        unfold F_impl_Blur_b2 at h
        refine ex_seq ?_
        refine ex_region ?_
        refine ro_lt (r_lss rfl rfl) rfl ?_
        refine RO.nil (nx ?_)
        refine ex_seq ?_
        replace h := ite_some h; rcases h with ⟨c751, h⟩ | ⟨c751, h⟩
        rotate_left
        · refine ex_if_f rfl (decide_eq_false c751) ?_
          refine ex_exit (tq_exit ?_)
          obtain rfl := Option.some.inj h
          exact lq_out ⟨⟨rfl, rfl, rfl, rfl, rfl, rfl, rfl, rfl, rfl, rfl, rfl, rfl, rfl, trivial⟩, HS⟩
        refine ex_if_t rfl (decide_eq_true c751) ?_
        refine ex_skip (nx ?_)
        refine ex_seq ?_
        refine ex_block ?_
        refine ex_seq ?_
        refine ex_region ?_
        refine ro_lt (r_mv (v := iv i749) rfl) rfl ?_
        replace h := grd_some h; obtain ⟨g752, h⟩ := h
        refine ro_lt (r_ia (HS.mrd (y94.getD i121.toNat ByteArray.empty) 7 rfl) sl25 g752.1 g752.2 rfl rfl) rfl ?_
        refine ro_lt (r_ld ((HS.mrd (y94.getD i121.toNat ByteArray.empty) 7 rfl).int g752.1 g752.2) sc3 rfl) rfl ?_
        refine ro_lt (r_as (v := iv i749) rfl) rfl ?_
        refine ro_lt (r_as (v := iv ((mget y84.1 (y94.getD i121.toNat ByteArray.empty)).getD i749.toNat 0)) rfl) rfl ?_
        refine RO.nil (nx ?_)
        refine ex_seq ?_
        refine ex_region ?_
        refine ro_lt (r_mv (v := iv i749) rfl) rfl ?_
        refine ro_lt (r_gtr rfl rfl) rfl ?_
        refine ro_lt (r_mv (v := .bool ((decide (i749 > 0)))) rfl) rfl ?_
        replace h := ite_some h; rcases h with ⟨c753, h⟩ | ⟨c753, h⟩
        · refine ro_off (sb (decide_eq_true c753)) rfl rfl ?_
          refine ro_off (sb (decide_eq_true c753)) rfl rfl ?_
          refine ro_off (sb (decide_eq_true c753)) rfl rfl ?_
          refine ro_off (sb (decide_eq_true c753)) rfl rfl ?_
          refine ro_off (sb (decide_eq_true c753)) rfl rfl ?_
          refine ro_off (sb (decide_eq_true c753)) rfl rfl ?_
          refine ro_off (sb (decide_eq_true c753)) rfl rfl ?_
          refine ro_lt (r_pickt (v := .bool true) (decide_eq_true c753) rfl rfl) rfl ?_
          refine RO.nil (nx ?_)
          refine ex_if_t rfl (rfl) ?_
          refine ex_region ?_
          refine ro_lt (r_fa (HS.boxAt 0 rfl) fd72_3 rfl) rfl ?_
          refine ro_hy (o_str (off := 3) (vs := [iv 1]) (l' := [v737, v739, iv y615.2.2.1, iv 1]) HS rfl rfl rfl st3 rfl rfl (pl rfl pl0) rfl) rfl ?_
          rintro _ w754 ⟨rfl, hk, HS⟩
          refine RO.nil (blk_nx (nx ?_))
          refine ex_region ?_
          refine ro_lt (r_addw rfl rfl) rfl ?_
          refine ro_lt (r_mv (v := iv (wi (i749 + 1))) rfl) rfl ?_
          refine RO.nil ?_
          obtain rfl := Option.some.inj h
          exact lq_go ⟨⟨rfl, rfl, rfl, rfl, rfl, rfl, rfl, rfl, rfl, rfl, rfl, rfl, rfl, trivial⟩, HS⟩
        refine ro_on (sb (decide_eq_false c753)) ?_
        refine ro_lt (r_fa (l4.sub HS.sub) fd27_0 rfl) rfl ?_
        refine ro_on (sb (decide_eq_false c753)) ?_
        refine ro_lt (r_ld ((l4.seg 0 1).sub HS.sub) sc24 rfl) rfl ?_
        refine ro_on (sb (decide_eq_false c753)) ?_
        refine ro_lt (r_mv (v := iv ((mget y84.1 (y94.getD i121.toNat ByteArray.empty)).getD i749.toNat 0)) rfl) rfl ?_
        replace h := grd_some h; obtain ⟨g756, h⟩ := h
        obtain ⟨_, q757, l758⟩ := r_s0.idx g756.1 g756.2
        obtain ⟨v759, v761, rfl, r760, r762⟩ := rd_K72 q757
        refine ro_on (sb (decide_eq_false c753)) ?_
        refine ro_lt (r_ia (r_s0.sub HS.sub) sl24 g756.1 g756.2 rfl rfl) rfl ?_
        refine ro_on (sb (decide_eq_false c753)) ?_
        refine ro_lt (r_fa (l758.sub HS.sub) fd72_3 rfl) rfl ?_
        refine ro_on (sb (decide_eq_false c753)) ?_
        refine ro_lt (r_ld ((l758.seg 3 1).sub HS.sub) sc3 rfl) rfl ?_
        refine ro_on (sb (decide_eq_false c753)) ?_
        refine ro_lt (r_neq rfl rfl) rfl ?_
        refine ro_lt (r_pickf (v := .bool ((!(decide ((((s.1.getD ((mget y84.1 (y94.getD i121.toNat ByteArray.empty)).getD i749.toNat 0).toNat (([] : List Int), ([] : List Int), 0, 0)).2).2).2 = 0))))) (decide_eq_false c753) rfl rfl) rfl ?_
        refine RO.nil (nx ?_)
        replace h := ite_some h; rcases h with ⟨c763, h⟩ | ⟨c763, h⟩
        · refine ex_if_f rfl (congrArg (!·) (decide_eq_true c763)) ?_
          refine ex_skip (blk_nx (nx ?_))
          refine ex_region ?_
          refine ro_lt (r_addw rfl rfl) rfl ?_
          refine ro_lt (r_mv (v := iv (wi (i749 + 1))) rfl) rfl ?_
          refine RO.nil ?_
          obtain rfl := Option.some.inj h
          exact lq_go ⟨⟨rfl, rfl, rfl, rfl, rfl, rfl, rfl, rfl, rfl, rfl, rfl, rfl, rfl, trivial⟩, HS⟩
        refine ex_if_t rfl (congrArg (!·) (decide_eq_false c763)) ?_
        refine ex_region ?_
        refine ro_lt (r_fa (HS.boxAt 0 rfl) fd72_3 rfl) rfl ?_
        refine ro_hy (o_str (off := 3) (vs := [iv 1]) (l' := [v737, v739, iv y615.2.2.1, iv 1]) HS rfl rfl rfl st3 rfl rfl (pl rfl pl0) rfl) rfl ?_
        rintro _ w764 ⟨rfl, hk, HS⟩
        refine RO.nil (blk_nx (nx ?_))
        refine ex_region ?_
        refine ro_lt (r_addw rfl rfl) rfl ?_
        refine ro_lt (r_mv (v := iv (wi (i749 + 1))) rfl) rfl ?_
        refine RO.nil ?_
        obtain rfl := Option.some.inj h
        exact lq_go ⟨⟨rfl, rfl, rfl, rfl, rfl, rfl, rfl, rfl, rfl, rfl, rfl, rfl, rfl, trivial⟩, HS⟩
      rintro s' w768 ⟨hs_, HS⟩
      rw [has_put hs_]; clear hs_
      refine (nx ?_)
      refine ex_seq ?_
      refine ex_region ?_
      refine ro_lt (r_fa (HS.boxAt 5 rfl) fd27_0 rfl) rfl ?_
      refine ro_lt (r_ld ((HS.boxAt 5 rfl).seg 0 1) sc24 rfl) rfl ?_
      refine ro_lt (r_lda (HS.boxAt 0 rfl) ag72 rfl rfl) rfl ?_
      refine ro_hy (o_bsv HS (cs := [v737, v739, iv y615.2.2.1, iv y766.1]) sl24 zz72 (vs := [.agg #[v737, v739, iv y615.2.2.1, iv y766.1]]) rfl rfl (vc rfl vc0) rfl rfl (by decide)) rfl ?_
      rintro _ w771 ⟨g770, rfl, hb, HS⟩
      replace h := grd_some h; obtain ⟨g773, h⟩ := h
      refine ro_hy (o_app1 ((((((((HS.add (t := (.int .i64)) (x := y766.1) rfl rfl).add (t := (.int .i64)) (x := y615.2.2.1) rfl rfl).join).sel (G := [_, _, _, _, _, _, _, _, _, _, _]) [4] 0 rfl).join).sel (G := [_, _, _, _, _, _, _, _, _, _]) [3] 0 rfl).join).sel (G := [_, _, _, _, _, _, _, _, _]) [4] 0 rfl) rfl rfl sl24 zz72 g773) rfl ?_
      rintro v780 w781 ⟨HS, hk⟩
      refine ro_lt (r_fa (HS.boxAt 3 rfl) fd27_0 rfl) rfl ?_
      refine ro_hy (o_str (off := 0) (vs := [v780]) (l' := [v780, v120]) (HS.sel (G := [_, _, _, _, _, _, _]) [3] 0 rfl) rfl rfl (HS.rd 0 rfl).vc st24 rfl rfl (pl (HS.rd 0 rfl).pl pl0) rfl) rfl ?_
      rintro _ w783 ⟨rfl, hk, HS⟩
      refine RO.nil (nx ?_)
      refine ex_seq ?_
      refine ex_region ?_
      refine ro_lt (r_mv (v := v44) rfl) rfl ?_
      refine ro_lt (r_len (n := 1) (HS.rd 4 rfl) sl102 rfl) rfl ?_
      refine ro_lt (r_mv (v := iv 0) rfl) rfl ?_
      refine RO.nil (nx ?_)
      replace h := bind_some h; obtain ⟨y808, e809, h⟩ := h
      refine ex_lbo (fun (st : (List Int) × Int) s' w' => ∃ v789 : Value, Has s' [(1, .pointer (some ⟨g1, 0, none⟩)), (2, .pointer (some ⟨g6, 0, none⟩)), (3, .map (some g24)), (4, v44), (7, .pointer (some ⟨g98, 0, none⟩)), (9, .string (y94.getD i121.toNat ByteArray.empty)), (60, v44), (61, iv ((y94.length : Int))), (62, iv i121), (104, v44), (105, iv ((y94.length : Int))), (106, iv st.2)] ∧ St w H5 w' [.bx g98 27 [v780, v789], .ow (.sl 72 (.prod (.sl 3 (.int .i64)) (.prod (.sl 3 (.int .i64)) (.prod (.int .i64) (.int .i64))))) (i115 ++ [(y615.1, y615.2.1, y615.2.2.1, y766.1)]) [v780], .bx g740 72 [v737, v739, iv y615.2.2.1, iv y766.1], .ow (.sl 3 (.int .i64)) st.1 [v789], .ow (.sl 9 .str) y94 [v44], .pr (MP 3 g24 sh41 y84.1), .bx g6 27 [.slice none 0 0, .slice none 0 0]]) e809 ⟨v120, ⟨rfl, rfl, rfl, rfl, rfl, rfl, rfl, rfl, rfl, rfl, rfl, rfl, trivial⟩, HS⟩ ?_ ?_
      · rintro ⟨i787, i790⟩ c' s' w791 ⟨v789, hs_, HS⟩ h
        rw [has_put hs_]; clear hs_
        try dsimp only at HS
        replace h : F_impl_Blur_b3 y94 s y84 i121 i787 i790 = some c' := h
        unfold F_impl_Blur_b3 at h
        refine ex_seq ?_
        refine ex_region ?_
        refine ro_lt (r_lss rfl rfl) rfl ?_
        refine RO.nil (nx ?_)
        refine ex_seq ?_
        replace h := ite_some h; rcases h with ⟨c792, h⟩ | ⟨c792, h⟩
        rotate_left
        · refine ex_if_f rfl (decide_eq_false c792) ?_
          refine ex_exit (tq_exit ?_)
          obtain rfl := Option.some.inj h
          exact lq_out ⟨v789, ⟨rfl, rfl, rfl, rfl, rfl, rfl, rfl, rfl, rfl, rfl, rfl, rfl, trivial⟩, HS⟩
        refine ex_if_t rfl (decide_eq_true c792) ?_
        refine ex_skip (nx ?_)
        refine ex_seq ?_
        refine ex_block ?_
        refine ex_seq ?_
        refine ex_region ?_
        replace h := grd_some h; obtain ⟨g793, h⟩ := h
        refine ro_lt (r_ia (HS.rd 4 rfl) sl102 g793.1 g793.2 rfl rfl) rfl ?_
        refine ro_lt (r_ld ((HS.rd 4 rfl).strE g793.1 g793.2) sc9 rfl) rfl ?_
        refine ro_lt (r_as (v := .string (y94.getD i790.toNat ByteArray.empty)) rfl) rfl ?_
        refine RO.nil (nx ?_)
        refine ex_dr (Mm H5 [1, 5, 8]) (fun _ => True) [0, 1, 0, 0, 0, 24, 0, 0, 192, 508, 1020, 2047, 4095, 8191] [9, 10, 11, 13] (.op 0 (.op 1 (.op 2 (.op 3 (.op 4 (.op 5 (.op 6 (.op 7 (.op 8 (.op 9 (.op 10 (.op 11 (.op 12 (.op 13 .nil)))))))))))))) mix (by kernel_rfl) (by kernel_rfl) ?_
        intro w794 hw hb; have HS := HS.ext hb; clear hw hb
        refine RT.lt rfl rfl rfl rfl (fun w' k => r_fa (HS.boxAt 0 rfl) fd27_1 rfl) ?_
        refine RT.lt rfl rfl rfl rfl (fun w' k => r_ld (((HS.boxAt 0 rfl).seg 1 1).k0 (Sub.refl _) (k.kp.none rfl)) sc25 rfl) ?_
        refine RT.lt rfl rfl rfl rfl (fun w' k => r_lda (l4.kp HS.sub k.kp (mh rfl)) ag27 rfl rfl) ?_
        refine RT.lt rfl rfl rfl rfl (fun w' k => r_mv (v := .map (some g24)) rfl) ?_
        refine RT.lt rfl rfl rfl rfl (fun w' k => r_mv (v := .string (y94.getD i121.toNat ByteArray.empty)) rfl) ?_
        refine RT.lt rfl rfl rfl rfl (fun w' k => r_lkp ((HS.mf 5 rfl).k0 (k.kp.none rfl)) mt101 rfl rfl) ?_
        refine RT.lt rfl rfl rfl rfl (fun w' k => r_mv (v := .map (some g24)) rfl) ?_
        refine RT.lt rfl rfl rfl rfl (fun w' k => r_mv (v := .string (y94.getD i790.toNat ByteArray.empty)) rfl) ?_
        refine RT.lt rfl rfl rfl rfl (fun w' k => r_lkp ((HS.mf 5 rfl).k0 (k.kp.none rfl)) mt101 rfl rfl) ?_
        replace h := bind_some h; obtain ⟨y795, e796, h⟩ := h
        refine RT.hy rfl rfl rfl rfl rfl (o_cf (vs := [.agg #[v_s0, v_s1], (sh41 (y94.getD i121.toNat ByteArray.empty)), (sh41 (y94.getD i790.toNat ByteArray.empty))]) HS rfl (c_impl_joinNext (r_s0.sub HS.sub) (r_s1.sub HS.sub) (HS.mrd (y94.getD i121.toNat ByteArray.empty) 5 rfl) (HS.mrd (y94.getD i790.toNat ByteArray.empty) 5 rfl) e796) cf94 rfl) (fun _ _ ⟨_, hb, _⟩ => km_below hb (fun _ => trivial)) ?_
        rintro _ w797 ⟨rfl, hb, HS⟩
        refine RT.hy rfl rfl rfl rfl rfl (o_bsv HS (cs := [iv y795]) sl25 zz3 (vs := [iv y795]) rfl rfl (vc rfl vc0) rfl rfl (by decide)) (fun _ _ ⟨_, _, hb, _⟩ => km_below hb (fun _ => trivial)) ?_
        rintro _ w799 ⟨g798, rfl, hb, HS⟩
        replace h := grd_some h; obtain ⟨g801, h⟩ := h
        refine RT.hy rfl rfl rfl rfl rfl (o_appf (HS.sel (G := [_, _, _, _, _, _, _, _]) [4] 0 rfl) rfl rfl rfl rfl sl25 zz3 g801) (fun _ _ ⟨HS2, hk⟩ => km_st HS (Sub.refl _) (hk _ fun _ h => h) (own_none (HS.sel (G := [_, _, _, _, _, _, _, _]) [4] 0 rfl)) (by kernel_rfl) (fun _ => trivial)) ?_
        rintro v803 w804 ⟨HS, hk⟩
        refine RT.lt rfl rfl rfl rfl (fun w' k => r_fa (HS.boxAt 1 rfl) fd27_1 rfl) ?_
        refine RT.hy rfl rfl rfl rfl rfl (o_str (off := 1) (vs := [v803]) (l' := [v780, v803]) (HS.sel (G := [_, _, _, _, _, _, _]) [1] 0 rfl) rfl rfl (HS.rd 0 rfl).vc st25 rfl rfl (pl (HS.rd 0 rfl).pl pl0) rfl) (fun _ _ ⟨_, hk, HS2⟩ => km_st HS (Sub.refl _) (hk (fun b => b = g98) rfl) (fun b hb => hb ▸ bx_none (HS.sel (G := [_, _, _, _, _, _, _]) [1] 0 rfl)) (by kernel_rfl) (fun _ => trivial)) ?_
        rintro _ w806 ⟨rfl, hk, HS⟩
        refine RT.nil (blk_nx (nx ?_))
        refine ex_region ?_
        refine ro_lt (r_addw rfl rfl) rfl ?_
        refine ro_lt (r_mv (v := iv (wi (i790 + 1))) rfl) rfl ?_
        refine RO.nil ?_
        obtain rfl := Option.some.inj h
        exact lq_go ⟨v803, ⟨rfl, rfl, rfl, rfl, rfl, rfl, rfl, rfl, rfl, rfl, rfl, rfl, trivial⟩, (HS.sel (G := [_, _, _, _, _, _, _]) [0, 1, 1, 0, 0, 0, 0] 0 rfl)⟩
      rintro s' w810 ⟨v789, hs_, HS⟩
      rw [has_put hs_]; clear hs_
      refine (blk_nx (nx ?_))
      refine ex_region ?_
      refine ro_lt (r_addw rfl rfl) rfl ?_
      refine ro_lt (r_mv (v := iv (wi (i121 + 1))) rfl) rfl ?_
      refine RO.nil ?_
      obtain rfl := Option.some.inj h
      exact lq_go ⟨v780, v789, ⟨rfl, rfl, rfl, rfl, rfl, rfl, rfl, rfl, trivial⟩, (HS.sel (G := [_, _, _, _, _, _]) [3, 1, 0, 1, 1, 1] 1 rfl)⟩
    refine RT.br rfl rfl rfl rfl (o_alloc HS (cs := [.slice none 0 0, .slice none 0 0, iv 0, iv 0]) ze72 rfl) (fun _ _ ⟨_, _, hb, _⟩ => km_below hb (fun _ => trivial)) ?_ ?_
    · rintro _ w813 ⟨g812, rfl, hb, HS⟩
      refine RT.hy rfl rfl rfl rfl rfl (o_c1 (vs := [.agg #[v130, v132, iv ((((s.1.getD ((mget y84.1 (y94.getD i121.toNat ByteArray.empty)).getD (0 : Int).toNat 0).toNat (([] : List Int), ([] : List Int), 0, 0)).2).2).1), iv ((((s.1.getD ((mget y84.1 (y94.getD i121.toNat ByteArray.empty)).getD (0 : Int).toNat 0).toNat (([] : List Int), ([] : List Int), 0, 0)).2).2).2)]]) HS (c_Node_own (r131.sub HS.sub) (r133.sub HS.sub) e616) cf93 rfl) (fun _ _ ⟨_, _, hb, _⟩ => km_below hb (fun _ => trivial)) ?_
      rintro _ w815 ⟨cs816, rfl, hb, HS⟩
      replace HS := st_K72 HS
      obtain ⟨v818, v820, rfl, HS⟩ := HS
      refine RT.hy rfl rfl rfl rfl rfl (o_str (off := 0) (vs := [v818, v820, iv y615.2.2.1, iv y615.2.2.2]) (l' := [v818, v820, iv y615.2.2.1, iv y615.2.2.2]) (HS.sel (G := [_, _, _, _, _, _, _, _, _]) [2] 0 rfl) rfl rfl rfl st72 rfl rfl (pl (HS.rd 0 rfl).pl (pl (HS.rd 1 rfl).pl (pl rfl (pl rfl pl0)))) rfl) (fun _ _ ⟨_, hk, HS2⟩ => km_st HS (Sub.refl _) (hk (fun b => b = g812) rfl) (fun b hb => hb ▸ bx_none (HS.sel (G := [_, _, _, _, _, _, _, _, _]) [2] 0 rfl)) (by kernel_rfl) (fun _ => trivial)) ?_
      rintro _ w821 ⟨rfl, hk, HS⟩
      refine RT.nil (nx ?_)
      refine ex_seq ?_
      refine ex_seq ?_
      refine ex_region ?_
      refine ro_lt (r_mv (v := .map (some g24)) rfl) rfl ?_
      refine ro_lt (r_mv (v := .string (y94.getD i121.toNat ByteArray.empty)) rfl) rfl ?_
      refine ro_lt (r_lkp (HS.mf 7 rfl) mt101 rfl rfl) rfl ?_
      have b823 := (HS.mrd (y94.getD i121.toNat ByteArray.empty) 7 rfl).big
      refine ro_lt (r_len (n := 1) (HS.mrd (y94.getD i121.toNat ByteArray.empty) 7 rfl) sl25 rfl) rfl ?_
      refine ro_lt (r_mv (v := iv 0) rfl) rfl ?_
      refine RO.nil (nx ?_)
      replace h := bind_some h; obtain ⟨y844, e845, h⟩ := h
      refine ex_lbo (fun (st : Int × Int) s' w' => Has s' [(1, .pointer (some ⟨g1, 0, none⟩)), (2, .pointer (some ⟨g6, 0, none⟩)), (3, .map (some g24)), (4, v44), (7, .pointer (some ⟨g98, 0, none⟩)), (9, .string (y94.getD i121.toNat ByteArray.empty)), (10, .pointer (some ⟨g812, 0, none⟩)), (60, v44), (61, iv ((y94.length : Int))), (62, iv i121), (78, (sh41 (y94.getD i121.toNat ByteArray.empty))), (79, iv (((mget y84.1 (y94.getD i121.toNat ByteArray.empty)).length : Int))), (80, iv st.2)] ∧ St w H5 w' [.bx g812 72 [v818, v820, iv y615.2.2.1, iv st.1], .ow (.sl 3 (.int .i64)) y615.1 [v818], .ow (.sl 3 (.int .i64)) y615.2.1 [v820], .ow (.sl 3 (.int .i64)) i118 [v120], .ow (.sl 72 (.prod (.sl 3 (.int .i64)) (.prod (.sl 3 (.int .i64)) (.prod (.int .i64) (.int .i64))))) i115 [v117], .bx g98 27 [v117, v120], .ow (.sl 9 .str) y94 [v44], .pr (MP 3 g24 sh41 y84.1), .bx g6 27 [.slice none 0 0, .slice none 0 0]]) e845 ⟨⟨rfl, rfl, rfl, rfl, rfl, rfl, rfl, rfl, rfl, rfl, rfl, rfl, rfl, trivial⟩, HS⟩ ?_ ?_
      · rintro ⟨i826, i827⟩ c' s' w828 ⟨hs_, HS⟩ h
        rw [has_put hs_]; clear hs_
        try dsimp only at HS
        replace h : F_impl_Blur_b2 y84 y94 i121 s i826 i827 = some c' := h
        unfold F_impl_Blur_b2 at h
        refine ex_seq ?_
        refine ex_region ?_
        refine ro_lt (r_lss rfl rfl) rfl ?_
        refine RO.nil (nx ?_)
        refine ex_seq ?_
        replace h := ite_some h; rcases h with ⟨c829, h⟩ | ⟨c829, h⟩
        rotate_left
        · refine ex_if_f rfl (decide_eq_false c829) ?_
          refine ex_exit (tq_exit ?_)
          obtain rfl := Option.some.inj h
          exact lq_out ⟨⟨rfl, rfl, rfl, rfl, rfl, rfl, rfl, rfl, rfl, rfl, rfl, rfl, rfl, trivial⟩, HS⟩
        refine ex_if_t rfl (decide_eq_true c829) ?_
        refine ex_skip (nx ?_)
        refine ex_seq ?_
        refine ex_block ?_
        refine ex_seq ?_
        refine ex_region ?_
        refine ro_lt (r_mv (v := iv i827) rfl) rfl ?_
        replace h := grd_some h; obtain ⟨g830, h⟩ := h
        refine ro_lt (r_ia (HS.mrd (y94.getD i121.toNat ByteArray.empty) 7 rfl) sl25 g830.1 g830.2 rfl rfl) rfl ?_
        refine ro_lt (r_ld ((HS.mrd (y94.getD i121.toNat ByteArray.empty) 7 rfl).int g830.1 g830.2) sc3 rfl) rfl ?_
        refine ro_lt (r_as (v := iv i827) rfl) rfl ?_
        refine ro_lt (r_as (v := iv ((mget y84.1 (y94.getD i121.toNat ByteArray.empty)).getD i827.toNat 0)) rfl) rfl ?_
        refine RO.nil (nx ?_)
        refine ex_seq ?_
        refine ex_region ?_
        refine ro_lt (r_mv (v := iv i827) rfl) rfl ?_
        refine ro_lt (r_gtr rfl rfl) rfl ?_
        refine ro_lt (r_mv (v := .bool ((decide (i827 > 0)))) rfl) rfl ?_
        replace h := ite_some h; rcases h with ⟨c831, h⟩ | ⟨c831, h⟩
        · refine ro_off (sb (decide_eq_true c831)) rfl rfl ?_
          refine ro_off (sb (decide_eq_true c831)) rfl rfl ?_
          refine ro_off (sb (decide_eq_true c831)) rfl rfl ?_
          refine ro_off (sb (decide_eq_true c831)) rfl rfl ?_
          refine ro_off (sb (decide_eq_true c831)) rfl rfl ?_
          refine ro_off (sb (decide_eq_true c831)) rfl rfl ?_
          refine ro_off (sb (decide_eq_true c831)) rfl rfl ?_
          refine ro_lt (r_pickt (v := .bool true) (decide_eq_true c831) rfl rfl) rfl ?_
          refine RO.nil (nx ?_)
          refine ex_if_t rfl (rfl) ?_
          refine ex_region ?_
          refine ro_lt (r_fa (HS.boxAt 0 rfl) fd72_3 rfl) rfl ?_
          refine ro_hy (o_str (off := 3) (vs := [iv 1]) (l' := [v818, v820, iv y615.2.2.1, iv 1]) HS rfl rfl rfl st3 rfl rfl (pl rfl pl0) rfl) rfl ?_
          rintro _ w832 ⟨rfl, hk, HS⟩
          refine RO.nil (blk_nx (nx ?_))
          refine ex_region ?_
          refine ro_lt (r_addw rfl rfl) rfl ?_
          refine ro_lt (r_mv (v := iv (wi (i827 + 1))) rfl) rfl ?_
          refine RO.nil ?_
          obtain rfl := Option.some.inj h
          exact lq_go ⟨⟨rfl, rfl, rfl, rfl, rfl, rfl, rfl, rfl, rfl, rfl, rfl, rfl, rfl, trivial⟩, HS⟩
        refine ro_on (sb (decide_eq_false c831)) ?_
        refine ro_lt (r_fa (l4.sub HS.sub) fd27_0 rfl) rfl ?_
        refine ro_on (sb (decide_eq_false c831)) ?_
        refine ro_lt (r_ld ((l4.seg 0 1).sub HS.sub) sc24 rfl) rfl ?_
        refine ro_on (sb (decide_eq_false c831)) ?_
        refine ro_lt (r_mv (v := iv ((mget y84.1 (y94.getD i121.toNat ByteArray.empty)).getD i827.toNat 0)) rfl) rfl ?_
        replace h := grd_some h; obtain ⟨g834, h⟩ := h
        obtain ⟨_, q835, l836⟩ := r_s0.idx g834.1 g834.2
        obtain ⟨v837, v839, rfl, r838, r840⟩ := rd_K72 q835
        refine ro_on (sb (decide_eq_false c831)) ?_
        refine ro_lt (r_ia (r_s0.sub HS.sub) sl24 g834.1 g834.2 rfl rfl) rfl ?_
        refine ro_on (sb (decide_eq_false c831)) ?_
        refine ro_lt (r_fa (l836.sub HS.sub) fd72_3 rfl) rfl ?_
        refine ro_on (sb (decide_eq_false c831)) ?_
        refine ro_lt (r_ld ((l836.seg 3 1).sub HS.sub) sc3 rfl) rfl ?_
        refine ro_on (sb (decide_eq_false c831)) ?_
        refine ro_lt (r_neq rfl rfl) rfl ?_
        refine ro_lt (r_pickf (v := .bool ((!(decide ((((s.1.getD ((mget y84.1 (y94.getD i121.toNat ByteArray.empty)).getD i827.toNat 0).toNat (([] : List Int), ([] : List Int), 0, 0)).2).2).2 = 0))))) (decide_eq_false c831) rfl rfl) rfl ?_
        refine RO.nil (nx ?_)
        replace h := ite_some h; rcases h with ⟨c841, h⟩ | ⟨c841, h⟩
        · refine ex_if_f rfl (congrArg (!·) (decide_eq_true c841)) ?_
          refine ex_skip (blk_nx (nx ?_))
          refine ex_region ?_
          refine ro_lt (r_addw rfl rfl) rfl ?_
          refine ro_lt (r_mv (v := iv (wi (i827 + 1))) rfl) rfl ?_
          refine RO.nil ?_
          obtain rfl := Option.some.inj h
          exact lq_go ⟨⟨rfl, rfl, rfl, rfl, rfl, rfl, rfl, rfl, rfl, rfl, rfl, rfl, rfl, trivial⟩, HS⟩
        refine ex_if_t rfl (congrArg (!·) (decide_eq_false c841)) ?_
        refine ex_region ?_
        refine ro_lt (r_fa (HS.boxAt 0 rfl) fd72_3 rfl) rfl ?_
        refine ro_hy (o_str (off := 3) (vs := [iv 1]) (l' := [v818, v820, iv y615.2.2.1, iv 1]) HS rfl rfl rfl st3 rfl rfl (pl rfl pl0) rfl) rfl ?_
        rintro _ w842 ⟨rfl, hk, HS⟩
        refine RO.nil (blk_nx (nx ?_))
        refine ex_region ?_
        refine ro_lt (r_addw rfl rfl) rfl ?_
        refine ro_lt (r_mv (v := iv (wi (i827 + 1))) rfl) rfl ?_
        refine RO.nil ?_
        obtain rfl := Option.some.inj h
        exact lq_go ⟨⟨rfl, rfl, rfl, rfl, rfl, rfl, rfl, rfl, rfl, rfl, rfl, rfl, rfl, trivial⟩, HS⟩
      rintro s' w846 ⟨hs_, HS⟩
      rw [has_put hs_]; clear hs_
      refine (nx ?_)
      refine ex_seq ?_
      refine ex_region ?_
      refine ro_lt (r_fa (HS.boxAt 5 rfl) fd27_0 rfl) rfl ?_
      refine ro_lt (r_ld ((HS.boxAt 5 rfl).seg 0 1) sc24 rfl) rfl ?_
      refine ro_lt (r_lda (HS.boxAt 0 rfl) ag72 rfl rfl) rfl ?_
      refine ro_hy (o_bsv HS (cs := [v818, v820, iv y615.2.2.1, iv y844.1]) sl24 zz72 (vs := [.agg #[v818, v820, iv y615.2.2.1, iv y844.1]]) rfl rfl (vc rfl vc0) rfl rfl (by decide)) rfl ?_
      rintro _ w849 ⟨g848, rfl, hb, HS⟩
      replace h := grd_some h; obtain ⟨g851, h⟩ := h
      refine ro_hy (o_app1 ((((((((HS.add (t := (.int .i64)) (x := y844.1) rfl rfl).add (t := (.int .i64)) (x := y615.2.2.1) rfl rfl).join).sel (G := [_, _, _, _, _, _, _, _, _, _, _]) [4] 0 rfl).join).sel (G := [_, _, _, _, _, _, _, _, _, _]) [3] 0 rfl).join).sel (G := [_, _, _, _, _, _, _, _, _]) [4] 0 rfl) rfl rfl sl24 zz72 g851) rfl ?_
      rintro v858 w859 ⟨HS, hk⟩
      refine ro_lt (r_fa (HS.boxAt 3 rfl) fd27_0 rfl) rfl ?_
      refine ro_hy (o_str (off := 0) (vs := [v858]) (l' := [v858, v120]) (HS.sel (G := [_, _, _, _, _, _, _]) [3] 0 rfl) rfl rfl (HS.rd 0 rfl).vc st24 rfl rfl (pl (HS.rd 0 rfl).pl pl0) rfl) rfl ?_
      rintro _ w861 ⟨rfl, hk, HS⟩
      refine RO.nil (nx ?_)
      refine ex_seq ?_
      refine ex_region ?_
      refine ro_lt (r_mv (v := v44) rfl) rfl ?_
      refine ro_lt (r_len (n := 1) (HS.rd 4 rfl) sl102 rfl) rfl ?_
      refine ro_lt (r_mv (v := iv 0) rfl) rfl ?_
      refine RO.nil (nx ?_)
      replace h := bind_some h; obtain ⟨y886, e887, h⟩ := h
      refine ex_lbo (fun (st : (List Int) × Int) s' w' => ∃ v867 : Value, Has s' [(1, .pointer (some ⟨g1, 0, none⟩)), (2, .pointer (some ⟨g6, 0, none⟩)), (3, .map (some g24)), (4, v44), (7, .pointer (some ⟨g98, 0, none⟩)), (9, .string (y94.getD i121.toNat ByteArray.empty)), (60, v44), (61, iv ((y94.length : Int))), (62, iv i121), (104, v44), (105, iv ((y94.length : Int))), (106, iv st.2)] ∧ St w H5 w' [.bx g98 27 [v858, v867], .ow (.sl 72 (.prod (.sl 3 (.int .i64)) (.prod (.sl 3 (.int .i64)) (.prod (.int .i64) (.int .i64))))) (i115 ++ [(y615.1, y615.2.1, y615.2.2.1, y844.1)]) [v858], .bx g812 72 [v818, v820, iv y615.2.2.1, iv y844.1], .ow (.sl 3 (.int .i64)) st.1 [v867], .ow (.sl 9 .str) y94 [v44], .pr (MP 3 g24 sh41 y84.1), .bx g6 27 [.slice none 0 0, .slice none 0 0]]) e887 ⟨v120, ⟨rfl, rfl, rfl, rfl, rfl, rfl, rfl, rfl, rfl, rfl, rfl, rfl, trivial⟩, HS⟩ ?_ ?_
      · rintro ⟨i865, i868⟩ c' s' w869 ⟨v867, hs_, HS⟩ h
        rw [has_put hs_]; clear hs_
        try dsimp only at HS
        replace h : F_impl_Blur_b3 y94 s y84 i121 i865 i868 = some c' := h
        unfold F_impl_Blur_b3 at h
        refine ex_seq ?_
        refine ex_region ?_
        refine ro_lt (r_lss rfl rfl) rfl ?_
        refine RO.nil (nx ?_)
        refine ex_seq ?_
        replace h := ite_some h; rcases h with ⟨c870, h⟩ | ⟨c870, h⟩
        rotate_left
        · refine ex_if_f rfl (decide_eq_false c870) ?_
          refine ex_exit (tq_exit ?_)
          obtain rfl := Option.some.inj h
          exact lq_out ⟨v867, ⟨rfl, rfl, rfl, rfl, rfl, rfl, rfl, rfl, rfl, rfl, rfl, rfl, trivial⟩, HS⟩
        refine ex_if_t rfl (decide_eq_true c870) ?_
        refine ex_skip (nx ?_)
        refine ex_seq ?_
        refine ex_block ?_
        refine ex_seq ?_
        refine ex_region ?_
        replace h := grd_some h; obtain ⟨g871, h⟩ := h
        refine ro_lt (r_ia (HS.rd 4 rfl) sl102 g871.1 g871.2 rfl rfl) rfl ?_
        refine ro_lt (r_ld ((HS.rd 4 rfl).strE g871.1 g871.2) sc9 rfl) rfl ?_
        refine ro_lt (r_as (v := .string (y94.getD i868.toNat ByteArray.empty)) rfl) rfl ?_
        refine RO.nil (nx ?_)
        refine ex_dr (Mm H5 [1, 5, 8]) (fun _ => True) [0, 1, 0, 0, 0, 24, 0, 0, 192, 508, 1020, 2047, 4095, 8191] [9, 10, 11, 13] (.op 0 (.op 1 (.op 2 (.op 3 (.op 4 (.op 5 (.op 6 (.op 7 (.op 8 (.op 9 (.op 10 (.op 11 (.op 12 (.op 13 .nil)))))))))))))) mix (by kernel_rfl) (by kernel_rfl) ?_
        intro w872 hw hb; have HS := HS.ext hb; clear hw hb
        refine RT.lt rfl rfl rfl rfl (fun w' k => r_fa (HS.boxAt 0 rfl) fd27_1 rfl) ?_
        refine RT.lt rfl rfl rfl rfl (fun w' k => r_ld (((HS.boxAt 0 rfl).seg 1 1).k0 (Sub.refl _) (k.kp.none rfl)) sc25 rfl) ?_
        refine RT.lt rfl rfl rfl rfl (fun w' k => r_lda (l4.kp HS.sub k.kp (mh rfl)) ag27 rfl rfl) ?_
        refine RT.lt rfl rfl rfl rfl (fun w' k => r_mv (v := .map (some g24)) rfl) ?_
        refine RT.lt rfl rfl rfl rfl (fun w' k => r_mv (v := .string (y94.getD i121.toNat ByteArray.empty)) rfl) ?_
        refine RT.lt rfl rfl rfl rfl (fun w' k => r_lkp ((HS.mf 5 rfl).k0 (k.kp.none rfl)) mt101 rfl rfl) ?_
        refine RT.lt rfl rfl rfl rfl (fun w' k => r_mv (v := .map (some g24)) rfl) ?_
        refine RT.lt rfl rfl rfl rfl (fun w' k => r_mv (v := .string (y94.getD i868.toNat ByteArray.empty)) rfl) ?_
        refine RT.lt rfl rfl rfl rfl (fun w' k => r_lkp ((HS.mf 5 rfl).k0 (k.kp.none rfl)) mt101 rfl rfl) ?_
        replace h := bind_some h; obtain ⟨y873, e874, h⟩ := h
        refine RT.hy rfl rfl rfl rfl rfl (o_cf (vs := [.agg #[v_s0, v_s1], (sh41 (y94.getD i121.toNat ByteArray.empty)), (sh41 (y94.getD i868.toNat ByteArray.empty))]) HS rfl (c_impl_joinNext (r_s0.sub HS.sub) (r_s1.sub HS.sub) (HS.mrd (y94.getD i121.toNat ByteArray.empty) 5 rfl) (HS.mrd (y94.getD i868.toNat ByteArray.empty) 5 rfl) e874) cf94 rfl) (fun _ _ ⟨_, hb, _⟩ => km_below hb (fun _ => trivial)) ?_
        rintro _ w875 ⟨rfl, hb, HS⟩
        refine RT.hy rfl rfl rfl rfl rfl (o_bsv HS (cs := [iv y873]) sl25 zz3 (vs := [iv y873]) rfl rfl (vc rfl vc0) rfl rfl (by decide)) (fun _ _ ⟨_, _, hb, _⟩ => km_below hb (fun _ => trivial)) ?_
        rintro _ w877 ⟨g876, rfl, hb, HS⟩
        replace h := grd_some h; obtain ⟨g879, h⟩ := h
        refine RT.hy rfl rfl rfl rfl rfl (o_appf (HS.sel (G := [_, _, _, _, _, _, _, _]) [4] 0 rfl) rfl rfl rfl rfl sl25 zz3 g879) (fun _ _ ⟨HS2, hk⟩ => km_st HS (Sub.refl _) (hk _ fun _ h => h) (own_none (HS.sel (G := [_, _, _, _, _, _, _, _]) [4] 0 rfl)) (by kernel_rfl) (fun _ => trivial)) ?_
        rintro v881 w882 ⟨HS, hk⟩
        refine RT.lt rfl rfl rfl rfl (fun w' k => r_fa (HS.boxAt 1 rfl) fd27_1 rfl) ?_
        refine RT.hy rfl rfl rfl rfl rfl (o_str (off := 1) (vs := [v881]) (l' := [v858, v881]) (HS.sel (G := [_, _, _, _, _, _, _]) [1] 0 rfl) rfl rfl (HS.rd 0 rfl).vc st25 rfl rfl (pl (HS.rd 0 rfl).pl pl0) rfl) (fun _ _ ⟨_, hk, HS2⟩ => km_st HS (Sub.refl _) (hk (fun b => b = g98) rfl) (fun b hb => hb ▸ bx_none (HS.sel (G := [_, _, _, _, _, _, _]) [1] 0 rfl)) (by kernel_rfl) (fun _ => trivial)) ?_
        rintro _ w884 ⟨rfl, hk, HS⟩
        refine RT.nil (blk_nx (nx ?_))
        refine ex_region ?_
        refine ro_lt (r_addw rfl rfl) rfl ?_
        refine ro_lt (r_mv (v := iv (wi (i868 + 1))) rfl) rfl ?_
        refine RO.nil ?_
        obtain rfl := Option.some.inj h
        exact lq_go ⟨v881, ⟨rfl, rfl, rfl, rfl, rfl, rfl, rfl, rfl, rfl, rfl, rfl, rfl, trivial⟩, (HS.sel (G := [_, _, _, _, _, _, _]) [0, 1, 1, 0, 0, 0, 0] 0 rfl)⟩
      rintro s' w888 ⟨v867, hs_, HS⟩
      rw [has_put hs_]; clear hs_
      refine (blk_nx (nx ?_))
      refine ex_region ?_
      refine ro_lt (r_addw rfl rfl) rfl ?_
      refine ro_lt (r_mv (v := iv (wi (i121 + 1))) rfl) rfl ?_
      refine RO.nil ?_
      obtain rfl := Option.some.inj h
      exact lq_go ⟨v858, v867, ⟨rfl, rfl, rfl, rfl, rfl, rfl, rfl, rfl, trivial⟩, (HS.sel (G := [_, _, _, _, _, _]) [3, 1, 0, 1, 1, 1] 1 rfl)⟩
    exact RT.stop
  rintro s' w894 ⟨v117, v120, hs_, HS⟩
  rw [has_put hs_]; clear hs_
  refine (nx ?_)
  refine ex_seq ?_
  refine ex_region ?_
  refine ro_lt (r_lda (HS.boxAt 2 rfl) ag27 rfl rfl) rfl ?_
  refine ro_hy (o_str (off := 0) (vs := [v117, v120]) (l' := [v117, v120]) (HS.sel (G := [_, _, _, _, _, _]) [5] 0 rfl) rfl rfl rfl st27 rfl rfl (pl (HS.rd 1 rfl).pl (pl (HS.rd 0 rfl).pl pl0)) rfl) rfl ?_
  rintro _ w896 ⟨rfl, hk, HS⟩
  refine RO.nil (nx ?_)
  obtain rfl := Option.some.inj h
  refine ex_ret ?_
  exact ret1 (.inr rfl) rfl (rv_box HS (i := 0) rfl rfl ag27 rfl) (P1.of (((HS.sel (G := [_, _, _, _, _, _]) [1] 0 rfl).sel (G := [_, _, _, _, _, _]) [2] 0 rfl).join) hs)
theorem c_slices_Equal_int_int {w : World} {s1 : List Int} {v_s1 : Value} {s2 : List Int} {v_s2 : Value} (r_s1 : Rd (.sl 3 (.int .i64)) (hp w) s1 [v_s1]) (r_s2 : Rd (.sl 3 (.int .i64)) (hp w) s2 [v_s2]) {r : Bool} (h : F_slices_Equal_int_int s1 s2 = some r) : Calls Try.prog 120 [v_s1, v_s2].toArray w (P1 .bool w r) := by
  unfold F_slices_Equal_int_int at h
  have HS := St.init w
  have hs := Sub.refl (hp w)
  refine calls_ex (n := 26) Try.func120 rfl Try.ntmps120 (Nat.le_of_ble_eq_true rfl) ?_
  refine ex_seq ?_
  refine ex_region ?_
  refine ro_lt (r_as (v := .bool false) rfl) rfl ?_
  refine RO.nil (nx ?_)
  refine ex_seq ?_
  refine ex_seq ?_
  refine ex_region ?_
  refine ro_lt (r_mv (v := v_s1) rfl) rfl ?_
  have b1 := (r_s1.sub HS.sub).big
  refine ro_lt (r_len (n := 1) (r_s1.sub HS.sub) sl25 rfl) rfl ?_
  refine ro_lt (r_mv (v := v_s2) rfl) rfl ?_
  have b2 := (r_s2.sub HS.sub).big
  refine ro_lt (r_len (n := 1) (r_s2.sub HS.sub) sl25 rfl) rfl ?_
  refine ro_lt (r_neq rfl rfl) rfl ?_
  refine RO.nil (nx ?_)
  replace h := ite_some h; rcases h with ⟨c3, h⟩ | ⟨c3, h⟩
  rotate_left
  · refine ex_if_t rfl (congrArg (!·) (decide_eq_false c3)) ?_
    refine ex_seq ?_
    refine ex_region ?_
    refine ro_lt (r_as (v := .bool false) rfl) rfl ?_
    refine RO.nil (nx ?_)
    obtain rfl := Option.some.inj h
    refine ex_ret (tq_ret ?_)
    exact ret1 (.inr rfl) rfl rfl (P1.of_flat HS hs rfl)
  refine ex_if_f rfl (congrArg (!·) (decide_eq_true c3)) ?_
  refine ex_skip (nx ?_)
  refine ex_seq ?_
  refine ex_seq ?_
  refine ex_region ?_
  refine ro_lt (r_mv (v := v_s1) rfl) rfl ?_
  refine ro_lt (r_len (n := 1) (r_s1.sub HS.sub) sl25 rfl) rfl ?_
  refine ro_lt (r_mv (v := iv 0) rfl) rfl ?_
  refine RO.nil (nx ?_)
  replace h := bind_some h; obtain ⟨y16, e17, h⟩ := h
  refine ex_lbr (fun (st : Int) s' w' => Has s' [(0, v_s1), (1, v_s2), (4, .bool false), (12, iv ((s1.length : Int))), (13, iv st)] ∧ St w (hp w) w' []) (fun r s' w' => FQ Try.prog Try.f120 26 (P1 .bool w r) .ret s' w') e17 ⟨⟨rfl, rfl, rfl, rfl, rfl, trivial⟩, HS⟩ ?_ ?_
  · rintro i9 c' s' w10 ⟨hs_, HS⟩ h
    rw [has_put hs_]; clear hs_
    replace h : F_slices_Equal_int_int_b1 s1 s2 i9 = some c' := h
    unfold F_slices_Equal_int_int_b1 at h
    refine ex_seq ?_
    refine ex_region ?_
    refine ro_lt (r_lss rfl rfl) rfl ?_
    refine RO.nil (nx ?_)
    refine ex_seq ?_
    replace h := ite_some h; rcases h with ⟨c11, h⟩ | ⟨c11, h⟩
    rotate_left
    · refine ex_if_f rfl (decide_eq_false c11) ?_
      refine ex_exit (tq_exit ?_)
      obtain rfl := Option.some.inj h
      exact lq_out ⟨⟨rfl, rfl, rfl, rfl, rfl, trivial⟩, HS⟩
    refine ex_if_t rfl (decide_eq_true c11) ?_
    refine ex_skip (nx ?_)
    refine ex_seq ?_
    refine ex_block ?_
    refine ex_seq ?_
    refine ex_region ?_
    refine ro_lt (r_mv (v := iv i9) rfl) rfl ?_
    refine ro_lt (r_as (v := iv i9) rfl) rfl ?_
    refine RO.nil (nx ?_)
    refine ex_seq ?_
    refine ex_dr (Mm (hp w) []) (fun _ => True) [0, 0, 3, 7, 0, 0, 48, 112, 255] [] (.op 0 (.op 1 (.op 2 (.op 3 (.op 4 (.op 5 (.op 6 (.op 7 (.op 8 .nil))))))))) mix (by kernel_rfl) (by kernel_rfl) ?_
    intro w12 hw hb; have HS := HS.ext hb; clear hw hb
    refine RT.lt rfl rfl rfl rfl (fun w' k => r_mv (v := v_s1) rfl) ?_
    refine RT.lt rfl rfl rfl rfl (fun w' k => r_mv (v := iv i9) rfl) ?_
    replace h := grd_some h; obtain ⟨g13, h⟩ := h
    refine RT.lt rfl rfl rfl rfl (fun w' k => r_ia (r_s1.sub HS.sub) sl25 g13.1 g13.2 rfl rfl) ?_
    refine RT.lt rfl rfl rfl rfl (fun w' k => r_ld ((r_s1.int g13.1 g13.2).kp HS.sub k.kp (mh rfl)) sc3 rfl) ?_
    refine RT.lt rfl rfl rfl rfl (fun w' k => r_mv (v := v_s2) rfl) ?_
    refine RT.lt rfl rfl rfl rfl (fun w' k => r_mv (v := iv i9) rfl) ?_
    replace h := grd_some h; obtain ⟨g14, h⟩ := h
    refine RT.lt rfl rfl rfl rfl (fun w' k => r_ia (r_s2.sub HS.sub) sl25 g14.1 g14.2 rfl rfl) ?_
    refine RT.lt rfl rfl rfl rfl (fun w' k => r_ld ((r_s2.int g14.1 g14.2).kp HS.sub k.kp (mh rfl)) sc3 rfl) ?_
    refine RT.lt rfl rfl rfl rfl (fun w' k => r_neq rfl rfl) ?_
    refine RT.nil (nx ?_)
    replace h := ite_some h; rcases h with ⟨c15, h⟩ | ⟨c15, h⟩
    · refine ex_if_f rfl (congrArg (!·) (decide_eq_true c15)) ?_
      refine ex_skip (blk_nx (nx ?_))
      refine ex_region ?_
      refine ro_lt (r_addw rfl rfl) rfl ?_
      refine ro_lt (r_mv (v := iv (wi (i9 + 1))) rfl) rfl ?_
      refine RO.nil ?_
      obtain rfl := Option.some.inj h
      exact lq_go ⟨⟨rfl, rfl, rfl, rfl, rfl, trivial⟩, HS⟩
    refine ex_if_t rfl (congrArg (!·) (decide_eq_false c15)) ?_
    refine ex_seq ?_
    refine ex_region ?_
    refine ro_lt (r_as (v := .bool false) rfl) rfl ?_
    refine RO.nil (nx ?_)
    obtain rfl := Option.some.inj h
    refine ex_ret (blk_ret (tq_ret (lq_ret ?_)))
    exact ret1 (.inr rfl) rfl rfl (P1.of_flat HS hs rfl)
  rcases y16 with r20 | y16
  · intro s' w' hR
    obtain rfl := Option.some.inj h
    exact (tq_ret hR)
  rintro s' w18 ⟨hs_, HS⟩
  rw [has_put hs_]; clear hs_
  refine (nx ?_)
  refine ex_seq ?_
  refine ex_region ?_
  refine ro_lt (r_as (v := .bool true) rfl) rfl ?_
  refine RO.nil (nx ?_)
  obtain rfl := Option.some.inj h
  refine ex_ret ?_
  exact ret1 (.inr rfl) rfl rfl (P1.of_flat HS hs rfl)
theorem c_slices_EqualFunc_Node_Node_Node_Node {w : World} {s1 : List (List Int × List Int × Int × Int)} {v_s1 : Value} {s2 : List (List Int × List Int × Int × Int)} {v_s2 : Value} {eq : (List Int × List Int × Int × Int) → (List Int × List Int × Int × Int) → Option Bool} {v_eq : Value} (r_s1 : Rd (.sl 72 (.prod (.sl 3 (.int .i64)) (.prod (.sl 3 (.int .i64)) (.prod (.int .i64) (.int .i64))))) (hp w) s1 [v_s1]) (r_s2 : Rd (.sl 72 (.prod (.sl 3 (.int .i64)) (.prod (.sl 3 (.int .i64)) (.prod (.int .i64) (.int .i64))))) (hp w) s2 [v_s2]) (k_eq : Fn2 Try.prog (hp w) (.prod (.sl 3 (.int .i64)) (.prod (.sl 3 (.int .i64)) (.prod (.int .i64) (.int .i64)))) (.prod (.sl 3 (.int .i64)) (.prod (.sl 3 (.int .i64)) (.prod (.int .i64) (.int .i64)))) .bool v_eq eq) {r : Bool} (h : F_slices_EqualFunc_Node_Node_Node_Node s1 s2 eq = some r) : Calls Try.prog 121 [v_s1, v_s2, v_eq].toArray w (P1 .bool w r) := by
  unfold F_slices_EqualFunc_Node_Node_Node_Node at h
  have HS := St.init w
  have hs := Sub.refl (hp w)
  refine calls_ex (n := 32) Try.func121 rfl Try.ntmps121 (Nat.le_of_ble_eq_true rfl) ?_
  refine ex_seq ?_
  refine ex_region ?_
  refine ro_lt (r_as (v := .bool false) rfl) rfl ?_
  refine RO.nil (nx ?_)
  refine ex_seq ?_
  refine ex_seq ?_
  refine ex_region ?_
  refine ro_lt (r_mv (v := v_s1) rfl) rfl ?_
  have b1 := (r_s1.sub HS.sub).big
  refine ro_lt (r_len (n := 4) (r_s1.sub HS.sub) sl24 rfl) rfl ?_
  refine ro_lt (r_mv (v := v_s2) rfl) rfl ?_
  have b2 := (r_s2.sub HS.sub).big
  refine ro_lt (r_len (n := 4) (r_s2.sub HS.sub) sl24 rfl) rfl ?_
  refine ro_lt (r_neq rfl rfl) rfl ?_
  refine RO.nil (nx ?_)
  replace h := ite_some h; rcases h with ⟨c3, h⟩ | ⟨c3, h⟩
  rotate_left
  · refine ex_if_t rfl (congrArg (!·) (decide_eq_false c3)) ?_
    refine ex_seq ?_
    refine ex_region ?_
    refine ro_lt (r_as (v := .bool false) rfl) rfl ?_
    refine RO.nil (nx ?_)
    obtain rfl := Option.some.inj h
    refine ex_ret (tq_ret ?_)
    exact ret1 (.inr rfl) rfl rfl (P1.of_flat HS hs rfl)
  refine ex_if_f rfl (congrArg (!·) (decide_eq_true c3)) ?_
  refine ex_skip (nx ?_)
  refine ex_seq ?_
  refine ex_seq ?_
  refine ex_region ?_
  refine ro_lt (r_mv (v := v_s1) rfl) rfl ?_
  refine ro_lt (r_len (n := 4) (r_s1.sub HS.sub) sl24 rfl) rfl ?_
  refine ro_lt (r_mv (v := iv 0) rfl) rfl ?_
  refine RO.nil (nx ?_)
  replace h := bind_some h; obtain ⟨y40, e41, h⟩ := h
  refine ex_lbr (fun (st : Int) s' w' => Has s' [(1, v_s2), (2, v_eq), (6, .bool false), (15, v_s1), (16, iv ((s1.length : Int))), (17, iv st)] ∧ St w (hp w) w' []) (fun r s' w' => FQ Try.prog Try.f121 32 (P1 .bool w r) .ret s' w') e41 ⟨⟨rfl, rfl, rfl, rfl, rfl, rfl, trivial⟩, HS⟩ ?_ ?_
  · rintro i9 c' s' w10 ⟨hs_, HS⟩ h
    rw [has_put hs_]; clear hs_
    replace h : F_slices_EqualFunc_Node_Node_Node_Node_b1 s1 s2 eq i9 = some c' := h
    unfold F_slices_EqualFunc_Node_Node_Node_Node_b1 at h
    refine ex_seq ?_
    refine ex_region ?_
    refine ro_lt (r_lss rfl rfl) rfl ?_
    refine RO.nil (nx ?_)
    refine ex_seq ?_
    replace h := ite_some h; rcases h with ⟨c11, h⟩ | ⟨c11, h⟩
    rotate_left
    · refine ex_if_f rfl (decide_eq_false c11) ?_
      refine ex_exit (tq_exit ?_)
      obtain rfl := Option.some.inj h
      exact lq_out ⟨⟨rfl, rfl, rfl, rfl, rfl, rfl, trivial⟩, HS⟩
    refine ex_if_t rfl (decide_eq_true c11) ?_
    refine ex_skip (nx ?_)
    refine ex_seq ?_
    refine ex_block ?_
    refine ex_seq ?_
    refine ex_region ?_
    refine ro_lt (r_mv (v := iv i9) rfl) rfl ?_
    replace h := grd_some h; obtain ⟨g12, h⟩ := h
    obtain ⟨_, q13, l14⟩ := r_s1.idx g12.1 g12.2
    obtain ⟨v15, v17, rfl, r16, r18⟩ := rd_K72 q13
    refine ro_lt (r_ia (r_s1.sub HS.sub) sl24 g12.1 g12.2 rfl rfl) rfl ?_
    refine ro_lt (r_lda (l14.sub HS.sub) ag72 rfl rfl) rfl ?_
    refine ro_hy (o_alloc HS (cs := [.slice none 0 0, .slice none 0 0, iv 0, iv 0]) ze72 rfl) rfl ?_
    rintro _ w20 ⟨g19, rfl, hb, HS⟩
    refine ro_lt (r_as (v := iv i9) rfl) rfl ?_
    refine ro_hy (o_str (off := 0) (vs := [v15, v17, iv ((((s1.getD i9.toNat (([] : List Int), ([] : List Int), 0, 0)).2).2).1), iv ((((s1.getD i9.toNat (([] : List Int), ([] : List Int), 0, 0)).2).2).2)]) (l' := [v15, v17, iv ((((s1.getD i9.toNat (([] : List Int), ([] : List Int), 0, 0)).2).2).1), iv ((((s1.getD i9.toNat (([] : List Int), ([] : List Int), 0, 0)).2).2).2)]) HS rfl rfl rfl st72 rfl rfl (pl (r16.sub HS.sub).pl (pl (r18.sub HS.sub).pl (pl rfl (pl rfl pl0)))) rfl) rfl ?_
    rintro _ w22 ⟨rfl, hk, HS⟩
    refine RO.nil (nx ?_)
    refine ex_seq ?_
    refine ex_region ?_
    refine ro_lt (r_mv (v := v_s2) rfl) rfl ?_
    refine ro_lt (r_mv (v := iv i9) rfl) rfl ?_
    replace h := grd_some h; obtain ⟨g24, h⟩ := h
    obtain ⟨_, q25, l26⟩ := r_s2.idx g24.1 g24.2
    obtain ⟨v27, v29, rfl, r28, r30⟩ := rd_K72 q25
    refine ro_lt (r_ia (r_s2.sub HS.sub) sl24 g24.1 g24.2 rfl rfl) rfl ?_
    refine ro_lt (r_lda (l26.sub HS.sub) ag72 rfl rfl) rfl ?_
    refine ro_hy (o_alloc HS (cs := [.slice none 0 0, .slice none 0 0, iv 0, iv 0]) ze72 rfl) rfl ?_
    rintro _ w32 ⟨g31, rfl, hb, HS⟩
    refine ro_hy (o_str (off := 0) (vs := [v27, v29, iv ((((s2.getD i9.toNat (([] : List Int), ([] : List Int), 0, 0)).2).2).1), iv ((((s2.getD i9.toNat (([] : List Int), ([] : List Int), 0, 0)).2).2).2)]) (l' := [v27, v29, iv ((((s2.getD i9.toNat (([] : List Int), ([] : List Int), 0, 0)).2).2).1), iv ((((s2.getD i9.toNat (([] : List Int), ([] : List Int), 0, 0)).2).2).2)]) HS rfl rfl rfl st72 rfl rfl (pl (r28.sub HS.sub).pl (pl (r30.sub HS.sub).pl (pl rfl (pl rfl pl0)))) rfl) rfl ?_
    rintro _ w34 ⟨rfl, hk, HS⟩
    refine RO.nil (nx ?_)
    refine ex_seq ?_
    refine ex_region ?_
    refine ro_lt (r_mv (v := v_eq) rfl) rfl ?_
    refine ro_lt (r_lda (HS.boxAt 1 rfl) ag72 rfl rfl) rfl ?_
    refine ro_lt (r_lda (HS.boxAt 0 rfl) ag72 rfl rfl) rfl ?_
    replace h := bind_some h; obtain ⟨y36, e37, h⟩ := h
    refine ro_hy (o_f2 HS rfl (k_eq.sub (Sub.refl _)) rfl rfl rfl (mk_K72 (r16.sub HS.sub) (r18.sub HS.sub)) (mk_K72 (r28.sub HS.sub) (r30.sub HS.sub)) e37) rfl ?_
    rintro _ w38 ⟨rfl, hb, HS⟩
    refine ro_lt (r_not rfl) rfl ?_
    refine RO.nil (nx ?_)
    replace h := ite_some h; rcases h with ⟨c39, h⟩ | ⟨c39, h⟩
    · refine ex_if_f rfl (congrArg (!·) (c39)) ?_
      refine ex_skip (blk_nx (nx ?_))
      refine ex_region ?_
      refine ro_lt (r_addw rfl rfl) rfl ?_
      refine ro_lt (r_mv (v := iv (wi (i9 + 1))) rfl) rfl ?_
      refine RO.nil ?_
      obtain rfl := Option.some.inj h
      exact lq_go ⟨⟨rfl, rfl, rfl, rfl, rfl, rfl, trivial⟩, (HS.sel (G := []) [] 2 rfl)⟩
    refine ex_if_t rfl (congrArg (!·) (bf c39)) ?_
    refine ex_seq ?_
    refine ex_region ?_
    refine ro_lt (r_as (v := .bool false) rfl) rfl ?_
    refine RO.nil (nx ?_)
    obtain rfl := Option.some.inj h
    refine ex_ret (blk_ret (tq_ret (lq_ret ?_)))
    exact ret1 (.inr rfl) rfl rfl (P1.of_flat HS hs rfl)
  rcases y40 with r44 | y40
  · intro s' w' hR
    obtain rfl := Option.some.inj h
    exact (tq_ret hR)
  rintro s' w42 ⟨hs_, HS⟩
  rw [has_put hs_]; clear hs_
  refine (nx ?_)
  refine ex_seq ?_
  refine ex_region ?_
  refine ro_lt (r_as (v := .bool true) rfl) rfl ?_
  refine RO.nil (nx ?_)
  obtain rfl := Option.some.inj h
  refine ex_ret ?_
  exact ret1 (.inr rfl) rfl rfl (P1.of_flat HS hs rfl)
theorem c_impl_EqualStructure_1 {w : World} {x : List Int × List Int × Int × Int} {v_x0 : Value} {v_x1 : Value} {y : List Int × List Int × Int × Int} {v_y0 : Value} {v_y1 : Value} (r_x0 : Rd (.sl 3 (.int .i64)) (hp w) x.1 [v_x0]) (r_x1 : Rd (.sl 3 (.int .i64)) (hp w) x.2.1 [v_x1]) (r_y0 : Rd (.sl 3 (.int .i64)) (hp w) y.1 [v_y0]) (r_y1 : Rd (.sl 3 (.int .i64)) (hp w) y.2.1 [v_y1]) {r : Bool} (h : F_impl_EqualStructure_1 x y = some r) : Calls Try.prog 122 [.agg #[v_x0, v_x1, iv x.2.2.1, iv x.2.2.2], .agg #[v_y0, v_y1, iv y.2.2.1, iv y.2.2.2]].toArray w (P1 .bool w r) := by
  unfold F_impl_EqualStructure_1 at h
  have HS := St.init w
  have hs := Sub.refl (hp w)
  refine calls_ex (n := 31) Try.func122 rfl Try.ntmps122 (Nat.le_of_ble_eq_true rfl) ?_
  refine ex_seq ?_
  refine ex_region ?_
  refine ro_hy (o_boxz HS (cs := [v_x0, v_x1, iv x.2.2.1, iv x.2.2.2]) rfl rfl) rfl ?_
  rintro _ w2 ⟨g1, H5, rfl, q3, l4, hb, HS⟩
  replace r_x0 := r_x0.sub q3
  replace r_x1 := r_x1.sub q3
  replace r_y0 := r_y0.sub q3
  replace r_y1 := r_y1.sub q3
  replace hs := hs.trans q3
  refine ro_hy (o_boxz HS (cs := [v_y0, v_y1, iv y.2.2.1, iv y.2.2.2]) rfl rfl) rfl ?_
  rintro _ w7 ⟨g6, H10, rfl, q8, l9, hb, HS⟩
  replace r_x0 := r_x0.sub q8
  replace r_x1 := r_x1.sub q8
  replace r_y0 := r_y0.sub q8
  replace r_y1 := r_y1.sub q8
  replace l4 := l4.sub q8
  replace hs := hs.trans q8
  refine ro_lt (r_as (v := .bool false) rfl) rfl ?_
  refine RO.nil (nx ?_)
  refine ex_seq ?_
  refine ex_region ?_
  refine ro_lt (r_fa (l4.sub HS.sub) fd72_0 rfl) rfl ?_
  refine ro_lt (r_ld ((l4.seg 0 1).sub HS.sub) sc25 rfl) rfl ?_
  refine ro_lt (r_fa (l9.sub HS.sub) fd72_0 rfl) rfl ?_
  refine ro_lt (r_ld ((l9.seg 0 1).sub HS.sub) sc25 rfl) rfl ?_
  replace h := bind_some h; obtain ⟨y11, e12, h⟩ := h
  refine ro_hy (o_cf (vs := [v_x0, v_y0]) HS rfl (c_slices_Equal_int_int (r_x0.sub HS.sub) (r_y0.sub HS.sub) e12) cf120 rfl) rfl ?_
  rintro _ w13 ⟨rfl, hb, HS⟩
  refine ro_lt (r_mv (v := .bool y11) rfl) rfl ?_
  replace h := ite_some h; rcases h with ⟨c14, h⟩ | ⟨c14, h⟩
  rotate_left
  · refine ro_off (sb (bf c14)) rfl rfl ?_
    refine ro_off (sb (bf c14)) rfl rfl ?_
    refine ro_off (sb (bf c14)) rfl rfl ?_
    refine ro_off (sb (bf c14)) rfl rfl ?_
    refine ro_off (sb (bf c14)) rfl rfl ?_
    refine ro_lt (r_pickf (v := .bool false) (bf c14) rfl rfl) rfl ?_
    refine ro_lt (r_mv (v := .bool false) rfl) rfl ?_
    refine ro_off (sb (rfl)) rfl rfl ?_
    refine ro_off (sb (rfl)) rfl rfl ?_
    refine ro_off (sb (rfl)) rfl rfl ?_
    refine ro_off (sb (rfl)) rfl rfl ?_
    refine ro_off (sb (rfl)) rfl rfl ?_
    refine ro_lt (r_pickf (v := .bool false) (rfl) rfl rfl) rfl ?_
    refine ro_lt (r_mv (v := .bool false) rfl) rfl ?_
    refine ro_off (sb (rfl)) rfl rfl ?_
    refine ro_off (sb (rfl)) rfl rfl ?_
    refine ro_off (sb (rfl)) rfl rfl ?_
    refine ro_off (sb (rfl)) rfl rfl ?_
    refine ro_off (sb (rfl)) rfl rfl ?_
    refine ro_lt (r_pickf (v := .bool false) (rfl) rfl rfl) rfl ?_
    refine ro_lt (r_as (v := .bool false) rfl) rfl ?_
    refine RO.nil (nx ?_)
    obtain rfl := Option.some.inj h
    refine ex_ret ?_
    exact ret1 (.inr rfl) rfl rfl (P1.of_flat HS hs rfl)
  refine ro_on (sb (c14)) ?_
  refine ro_lt (r_fa (l4.sub HS.sub) fd72_1 rfl) rfl ?_
  refine ro_on (sb (c14)) ?_
  refine ro_lt (r_ld ((l4.seg 1 1).sub HS.sub) sc25 rfl) rfl ?_
  refine ro_on (sb (c14)) ?_
  refine ro_lt (r_fa (l9.sub HS.sub) fd72_1 rfl) rfl ?_
  refine ro_on (sb (c14)) ?_
  refine ro_lt (r_ld ((l9.seg 1 1).sub HS.sub) sc25 rfl) rfl ?_
  replace h := bind_some h; obtain ⟨y15, e16, h⟩ := h
  refine ro_on (sb (c14)) ?_
  refine ro_hy (o_cf (vs := [v_x1, v_y1]) HS rfl (c_slices_Equal_int_int (r_x1.sub HS.sub) (r_y1.sub HS.sub) e16) cf120 rfl) rfl ?_
  rintro _ w17 ⟨rfl, hb, HS⟩
  refine ro_lt (r_pickt (v := .bool y15) (c14) rfl rfl) rfl ?_
  refine ro_lt (r_mv (v := .bool y15) rfl) rfl ?_
  replace h := ite_some h; rcases h with ⟨c18, h⟩ | ⟨c18, h⟩
  rotate_left
  · refine ro_off (sb (bf c18)) rfl rfl ?_
    refine ro_off (sb (bf c18)) rfl rfl ?_
    refine ro_off (sb (bf c18)) rfl rfl ?_
    refine ro_off (sb (bf c18)) rfl rfl ?_
    refine ro_off (sb (bf c18)) rfl rfl ?_
    refine ro_lt (r_pickf (v := .bool false) (bf c18) rfl rfl) rfl ?_
    refine ro_lt (r_mv (v := .bool false) rfl) rfl ?_
    refine ro_off (sb (rfl)) rfl rfl ?_
    refine ro_off (sb (rfl)) rfl rfl ?_
    refine ro_off (sb (rfl)) rfl rfl ?_
    refine ro_off (sb (rfl)) rfl rfl ?_
    refine ro_off (sb (rfl)) rfl rfl ?_
    refine ro_lt (r_pickf (v := .bool false) (rfl) rfl rfl) rfl ?_
    refine ro_lt (r_as (v := .bool false) rfl) rfl ?_
    refine RO.nil (nx ?_)
    obtain rfl := Option.some.inj h
    refine ex_ret ?_
    exact ret1 (.inr rfl) rfl rfl (P1.of_flat HS hs rfl)
  refine ro_on (sb (c18)) ?_
  refine ro_lt (r_fa (l4.sub HS.sub) fd72_2 rfl) rfl ?_
  refine ro_on (sb (c18)) ?_
  refine ro_lt (r_ld ((l4.seg 2 1).sub HS.sub) sc3 rfl) rfl ?_
  refine ro_on (sb (c18)) ?_
  refine ro_lt (r_fa (l9.sub HS.sub) fd72_2 rfl) rfl ?_
  refine ro_on (sb (c18)) ?_
  refine ro_lt (r_ld ((l9.seg 2 1).sub HS.sub) sc3 rfl) rfl ?_
  refine ro_on (sb (c18)) ?_
  refine ro_lt (r_eql rfl rfl) rfl ?_
  refine ro_lt (r_pickt (v := .bool ((decide (x.2.2.1 = y.2.2.1)))) (c18) rfl rfl) rfl ?_
  refine ro_lt (r_mv (v := .bool ((decide (x.2.2.1 = y.2.2.1)))) rfl) rfl ?_
  replace h := ite_some h; rcases h with ⟨c19, h⟩ | ⟨c19, h⟩
  rotate_left
  · refine ro_off (sb (decide_eq_false c19)) rfl rfl ?_
    refine ro_off (sb (decide_eq_false c19)) rfl rfl ?_
    refine ro_off (sb (decide_eq_false c19)) rfl rfl ?_
    refine ro_off (sb (decide_eq_false c19)) rfl rfl ?_
    refine ro_off (sb (decide_eq_false c19)) rfl rfl ?_
    refine ro_lt (r_pickf (v := .bool false) (decide_eq_false c19) rfl rfl) rfl ?_
    refine ro_lt (r_as (v := .bool false) rfl) rfl ?_
    refine RO.nil (nx ?_)
    obtain rfl := Option.some.inj h
    refine ex_ret ?_
    exact ret1 (.inr rfl) rfl rfl (P1.of_flat HS hs rfl)
  refine ro_on (sb (decide_eq_true c19)) ?_
  refine ro_lt (r_fa (l4.sub HS.sub) fd72_3 rfl) rfl ?_
  refine ro_on (sb (decide_eq_true c19)) ?_
  refine ro_lt (r_ld ((l4.seg 3 1).sub HS.sub) sc3 rfl) rfl ?_
  refine ro_on (sb (decide_eq_true c19)) ?_
  refine ro_lt (r_fa (l9.sub HS.sub) fd72_3 rfl) rfl ?_
  refine ro_on (sb (decide_eq_true c19)) ?_
  refine ro_lt (r_ld ((l9.seg 3 1).sub HS.sub) sc3 rfl) rfl ?_
  refine ro_on (sb (decide_eq_true c19)) ?_
  refine ro_lt (r_eql rfl rfl) rfl ?_
  refine ro_lt (r_pickt (v := .bool ((decide (x.2.2.2 = y.2.2.2)))) (decide_eq_true c19) rfl rfl) rfl ?_
  refine ro_lt (r_as (v := .bool ((decide (x.2.2.2 = y.2.2.2)))) rfl) rfl ?_
  refine RO.nil (nx ?_)
  obtain rfl := Option.some.inj h
  refine ex_ret ?_
  exact ret1 (.inr rfl) rfl rfl (P1.of_flat HS hs rfl)
theorem c_impl_EqualStructure {w : World} {a : (List (List Int × List Int × Int × Int)) × List Int} {v_a0 : Value} {v_a1 : Value} {b : (List (List Int × List Int × Int × Int)) × List Int} {v_b0 : Value} {v_b1 : Value} (r_a0 : Rd (.sl 72 (.prod (.sl 3 (.int .i64)) (.prod (.sl 3 (.int .i64)) (.prod (.int .i64) (.int .i64))))) (hp w) a.1 [v_a0]) (r_a1 : Rd (.sl 3 (.int .i64)) (hp w) a.2 [v_a1]) (r_b0 : Rd (.sl 72 (.prod (.sl 3 (.int .i64)) (.prod (.sl 3 (.int .i64)) (.prod (.int .i64) (.int .i64))))) (hp w) b.1 [v_b0]) (r_b1 : Rd (.sl 3 (.int .i64)) (hp w) b.2 [v_b1]) {r : Bool} (h : F_impl_EqualStructure a b = some r) : Calls Try.prog 72 [.agg #[v_a0, v_a1], .agg #[v_b0, v_b1]].toArray w (P1 .bool w r) := by
  unfold F_impl_EqualStructure at h
  have HS := St.init w
  have hs := Sub.refl (hp w)
  refine calls_ex (n := 17) Try.func72 rfl Try.ntmps72 (Nat.le_of_ble_eq_true rfl) ?_
  refine ex_seq ?_
  refine ex_region ?_
  refine ro_hy (o_boxz HS (cs := [v_a0, v_a1]) rfl rfl) rfl ?_
  rintro _ w2 ⟨g1, H5, rfl, q3, l4, hb, HS⟩
  replace r_a0 := r_a0.sub q3
  replace r_a1 := r_a1.sub q3
  replace r_b0 := r_b0.sub q3
  replace r_b1 := r_b1.sub q3
  replace hs := hs.trans q3
  refine ro_hy (o_boxz HS (cs := [v_b0, v_b1]) rfl rfl) rfl ?_
  rintro _ w7 ⟨g6, H10, rfl, q8, l9, hb, HS⟩
  replace r_a0 := r_a0.sub q8
  replace r_a1 := r_a1.sub q8
  replace r_b0 := r_b0.sub q8
  replace r_b1 := r_b1.sub q8
  replace l4 := l4.sub q8
  replace hs := hs.trans q8
  refine ro_lt (r_as (v := .bool false) rfl) rfl ?_
  refine RO.nil (nx ?_)
  refine ex_seq ?_
  refine ex_region ?_
  refine ro_lt (r_fa (l4.sub HS.sub) fd27_1 rfl) rfl ?_
  refine ro_lt (r_ld ((l4.seg 1 1).sub HS.sub) sc25 rfl) rfl ?_
  refine ro_lt (r_fa (l9.sub HS.sub) fd27_1 rfl) rfl ?_
  refine ro_lt (r_ld ((l9.seg 1 1).sub HS.sub) sc25 rfl) rfl ?_
  replace h := bind_some h; obtain ⟨y11, e12, h⟩ := h
  refine ro_hy (o_cf (vs := [v_a1, v_b1]) HS rfl (c_slices_Equal_int_int (r_a1.sub HS.sub) (r_b1.sub HS.sub) e12) cf120 rfl) rfl ?_
  rintro _ w13 ⟨rfl, hb, HS⟩
  refine ro_lt (r_mv (v := .bool y11) rfl) rfl ?_
  replace h := ite_some h; rcases h with ⟨c14, h⟩ | ⟨c14, h⟩
  rotate_left
  · refine ro_off (sb (bf c14)) rfl rfl ?_
    refine ro_off (sb (bf c14)) rfl rfl ?_
    refine ro_off (sb (bf c14)) rfl rfl ?_
    refine ro_off (sb (bf c14)) rfl rfl ?_
    refine ro_off (sb (bf c14)) rfl rfl ?_
    refine ro_lt (r_pickf (v := .bool false) (bf c14) rfl rfl) rfl ?_
    refine ro_lt (r_as (v := .bool false) rfl) rfl ?_
    refine RO.nil (nx ?_)
    obtain rfl := Option.some.inj h
    refine ex_ret ?_
    exact ret1 (.inr rfl) rfl rfl (P1.of_flat HS hs rfl)
  refine ro_on (sb (c14)) ?_
  refine ro_lt (r_fa (l4.sub HS.sub) fd27_0 rfl) rfl ?_
  refine ro_on (sb (c14)) ?_
  refine ro_lt (r_ld ((l4.seg 0 1).sub HS.sub) sc24 rfl) rfl ?_
  refine ro_on (sb (c14)) ?_
  refine ro_lt (r_fa (l9.sub HS.sub) fd27_0 rfl) rfl ?_
  refine ro_on (sb (c14)) ?_
  refine ro_lt (r_ld ((l9.seg 0 1).sub HS.sub) sc24 rfl) rfl ?_
  replace h := bind_some h; obtain ⟨y25, e26, h⟩ := h
  refine ro_on (sb (c14)) ?_
  refine ro_hy (o_cf (vs := [v_a0, v_b0, .func (.func 122) #[] #[]]) HS rfl (c_slices_EqualFunc_Node_Node_Node_Node (r_a0.sub HS.sub) (r_b0.sub HS.sub) ⟨122, [], [], rfl, cf122, by intro w' x15 x16 c17 c21 r' hs' r18 r22 hx; obtain ⟨_, _, rfl, r19, r20⟩ := rd_K72 r18; obtain ⟨_, _, rfl, r23, r24⟩ := rd_K72 r22; exact c_impl_EqualStructure_1 r19 r20 r23 r24 hx⟩ e26) cf121 rfl) rfl ?_
  rintro _ w27 ⟨rfl, hb, HS⟩
  refine ro_lt (r_pickt (v := .bool y25) (c14) rfl rfl) rfl ?_
  refine ro_lt (r_as (v := .bool y25) rfl) rfl ?_
  refine RO.nil (nx ?_)
  obtain rfl := Option.some.inj h
  refine ex_ret ?_
  exact ret1 (.inr rfl) rfl rfl (P1.of_flat HS hs rfl)
theorem c_impl_IsBlurred {w : World} {s : (List (List Int × List Int × Int × Int)) × List Int} {v_s0 : Value} {v_s1 : Value} (r_s0 : Rd (.sl 72 (.prod (.sl 3 (.int .i64)) (.prod (.sl 3 (.int .i64)) (.prod (.int .i64) (.int .i64))))) (hp w) s.1 [v_s0]) (r_s1 : Rd (.sl 3 (.int .i64)) (hp w) s.2 [v_s1]) {r : Bool} (h : F_impl_IsBlurred s = some r) : Calls Try.prog 32 [.agg #[v_s0, v_s1]].toArray w (P1 .bool w r) := by
  unfold F_impl_IsBlurred at h
  have HS := St.init w
  have hs := Sub.refl (hp w)
  refine calls_ex (n := 7) Try.func32 rfl Try.ntmps32 (Nat.le_of_ble_eq_true rfl) ?_
  refine ex_seq ?_
  refine ex_region ?_
  refine ro_hy (o_boxz HS (cs := [v_s0, v_s1]) rfl rfl) rfl ?_
  rintro _ w2 ⟨g1, H5, rfl, q3, l4, hb, HS⟩
  replace r_s0 := r_s0.sub q3
  replace r_s1 := r_s1.sub q3
  replace hs := hs.trans q3
  refine ro_lt (r_as (v := .bool false) rfl) rfl ?_
  refine RO.nil (nx ?_)
  refine ex_seq ?_
  refine ex_dr (Mm H5 []) (fun _ => True) [0, 0, 2, 7, 15] [2, 3] (.op 0 (.op 1 (.op 2 (.op 3 (.op 4 .nil))))) mix (by kernel_rfl) (by kernel_rfl) ?_
  intro w6 hw hb; have HS := HS.ext hb; clear hw hb
  refine RT.lt rfl rfl rfl rfl (fun w' k => r_lda (l4.kp HS.sub k.kp (mh rfl)) ag27 rfl rfl) ?_
  refine RT.lt rfl rfl rfl rfl (fun w' k => r_lda (l4.kp HS.sub k.kp (mh rfl)) ag27 rfl rfl) ?_
  replace h := bind_some h; obtain ⟨y7, e8, h⟩ := h
  refine RT.hy rfl rfl rfl rfl rfl (o_c1 (vs := [.agg #[v_s0, v_s1]]) HS (c_impl_Blur (r_s0.sub HS.sub) (r_s1.sub HS.sub) e8) cf34 rfl) (fun _ _ ⟨_, _, hb, _⟩ => km_below hb (fun _ => trivial)) ?_
  rintro _ w9 ⟨cs10, rfl, hb, HS⟩
  replace HS := st_K27 HS
  obtain ⟨v12, v14, rfl, HS⟩ := HS
  replace h := bind_some h; obtain ⟨y15, e16, h⟩ := h
  refine RT.hy rfl rfl rfl rfl rfl (o_cf (vs := [.agg #[v_s0, v_s1], .agg #[v12, v14]]) HS rfl (c_impl_EqualStructure (r_s0.sub HS.sub) (r_s1.sub HS.sub) (HS.rd 0 rfl) (HS.rd 1 rfl) e16) cf72 rfl) (fun _ _ ⟨_, hb, _⟩ => km_below hb (fun _ => trivial)) ?_
  rintro _ w17 ⟨rfl, hb, HS⟩
  refine RT.lt rfl rfl rfl rfl (fun w' k => r_as (v := .bool y15) rfl) ?_
  refine RT.nil (nx ?_)
  obtain rfl := Option.some.inj h
  refine ex_ret ?_
  exact ret1 (.inr rfl) rfl rfl (P1.of_flat HS hs rfl)
theorem c_laws_FnExactIsBlurred {w : World} {aS : (List (List Int × List Int × Int × Int)) × List Int} {v_aS0 : Value} {v_aS1 : Value} (r_aS0 : Rd (.sl 123 (.prod (.sl 3 (.int .i64)) (.prod (.sl 3 (.int .i64)) (.prod (.int .i64) (.int .i64))))) (hp w) aS.1 [v_aS0]) (r_aS1 : Rd (.sl 3 (.int .i64)) (hp w) aS.2 [v_aS1]) {r : Bool} (h : F_laws_FnExactIsBlurred aS = some r) : Calls Try.prog 6 [.agg #[v_aS0, v_aS1]].toArray w (P1 .bool w r) := by
  unfold F_laws_FnExactIsBlurred at h
  have HS := St.init w
  have hs := Sub.refl (hp w)
  refine calls_ex (n := 27) Try.func6 rfl Try.ntmps6 (Nat.le_of_ble_eq_true rfl) ?_
  refine ex_seq ?_
  refine ex_region ?_
  refine ro_hy (o_boxz HS (cs := [v_aS0, v_aS1]) rfl rfl) rfl ?_
  rintro _ w2 ⟨g1, H5, rfl, q3, l4, hb, HS⟩
  replace r_aS0 := r_aS0.sub q3
  replace r_aS1 := r_aS1.sub q3
  replace hs := hs.trans q3
  refine ro_lt (r_as (v := .bool false) rfl) rfl ?_
  refine RO.nil (nx ?_)
  refine ex_seq ?_
  refine ex_region ?_
  refine ro_lt (r_as (v := iv 1048576) rfl) rfl ?_
  refine RO.nil (nx ?_)
  refine ex_seq ?_
  refine ex_region ?_
  refine ro_lt (r_lda (l4.sub HS.sub) ag43 rfl rfl) rfl ?_
  refine ro_lt (r_mv (v := iv 1048576) rfl) rfl ?_
  replace h := bind_some h; obtain ⟨y6, e7, h⟩ := h
  refine ro_hy (o_cf (vs := [.agg #[v_aS0, v_aS1], iv 1048576]) HS rfl (c_laws_szStructure (r_aS0.sub HS.sub) (r_aS1.sub HS.sub) e7) cf22 rfl) rfl ?_
  rintro _ w8 ⟨rfl, hb, HS⟩
  refine ro_lt (r_as (v := iv y6) rfl) rfl ?_
  refine RO.nil (nx ?_)
  refine ex_seq ?_
  refine ex_seq ?_
  refine ex_region ?_
  refine ro_lt (r_mv (v := iv y6) rfl) rfl ?_
  refine ro_lt (r_lss rfl rfl) rfl ?_
  refine RO.nil (nx ?_)
  replace h := ite_some h; rcases h with ⟨c9, h⟩ | ⟨c9, h⟩
  · refine ex_if_t rfl (decide_eq_true c9) ?_
    refine ex_seq ?_
    refine ex_region ?_
    refine ro_lt (r_as (v := .bool true) rfl) rfl ?_
    refine RO.nil (nx ?_)
    obtain rfl := Option.some.inj h
    refine ex_ret (tq_ret ?_)
    exact ret1 (.inr rfl) rfl rfl (P1.of_flat HS hs rfl)
  refine ex_if_f rfl (decide_eq_false c9) ?_
  refine ex_skip (nx ?_)
  refine ex_seq ?_
  refine ex_region ?_
  refine ro_lt (r_lda (l4.sub HS.sub) ag43 rfl rfl) rfl ?_
  replace h := bind_some h; obtain ⟨y10, e11, h⟩ := h
  refine ro_hy (o_c1 (vs := [.agg #[v_aS0, v_aS1]]) HS (c_laws_toStructure (r_aS0.sub HS.sub) (r_aS1.sub HS.sub) e11) cf24 rfl) rfl ?_
  rintro _ w12 ⟨cs13, rfl, hb, HS⟩
  replace HS := st_K27 HS
  obtain ⟨v15, v17, rfl, HS⟩ := HS
  replace h := bind_some h; obtain ⟨y18, e19, h⟩ := h
  refine ro_hy (o_cf (vs := [.agg #[v15, v17]]) HS rfl (c_spec_IsBlurred (HS.rd 0 rfl) (HS.rd 1 rfl) e19) cf31 rfl) rfl ?_
  rintro _ w20 ⟨rfl, hb, HS⟩
  refine ro_lt (r_as (v := .bool y18) rfl) rfl ?_
  refine RO.nil (nx ?_)
  refine ex_seq ?_
  refine ex_region ?_
  refine ro_lt (r_lda (l4.sub HS.sub) ag43 rfl rfl) rfl ?_
  replace h := bind_some h; obtain ⟨y21, e22, h⟩ := h
  refine ro_hy (o_c1 (vs := [.agg #[v_aS0, v_aS1]]) HS (c_laws_toStructure (r_aS0.sub HS.sub) (r_aS1.sub HS.sub) e22) cf24 rfl) rfl ?_
  rintro _ w23 ⟨cs24, rfl, hb, HS⟩
  replace HS := st_K27 HS
  obtain ⟨v26, v28, rfl, HS⟩ := HS
  refine ro_hy (o_alloc HS (cs := [.slice none 0 0, .slice none 0 0]) ze27 rfl) rfl ?_
  rintro _ w30 ⟨g29, rfl, hb, HS⟩
  refine ro_hy (o_str (off := 0) (vs := [v26, v28]) (l' := [v26, v28]) HS rfl rfl rfl st27 rfl rfl (pl (HS.rd 1 rfl).pl (pl (HS.rd 2 rfl).pl pl0)) rfl) rfl ?_
  rintro _ w32 ⟨rfl, hk, HS⟩
  refine RO.nil (nx ?_)
  refine ex_seq ?_
  refine ex_region ?_
  refine ro_lt (r_lda (HS.boxAt 0 rfl) ag27 rfl rfl) rfl ?_
  replace h := bind_some h; obtain ⟨y34, e35, h⟩ := h
  refine ro_hy (o_cf (vs := [.agg #[v26, v28]]) HS rfl (c_impl_IsBlurred (HS.rd 1 rfl) (HS.rd 2 rfl) e35) cf32 rfl) rfl ?_
  rintro _ w36 ⟨rfl, hb, HS⟩
  refine ro_lt (r_as (v := .bool y34) rfl) rfl ?_
  refine RO.nil (nx ?_)
  refine ex_seq ?_
  refine ex_seq ?_
  refine ex_region ?_
  refine ro_lt (r_mv (v := .bool y34) rfl) rfl ?_
  refine ro_lt (r_mv (v := .bool y18) rfl) rfl ?_
  refine ro_lt (r_bneq rfl rfl bo4) rfl ?_
  refine RO.nil (nx ?_)
  replace h := ite_some h; rcases h with ⟨c37, h⟩ | ⟨c37, h⟩
  rotate_left
  · refine ex_if_t rfl (congrArg (!·) (decide_eq_false c37)) ?_
    refine ex_seq ?_
    refine ex_region ?_
    refine ro_lt (r_as (v := .bool false) rfl) rfl ?_
    refine RO.nil (nx ?_)
    obtain rfl := Option.some.inj h
    refine ex_ret (tq_ret ?_)
    exact ret1 (.inr rfl) rfl rfl (P1.of_flat HS hs rfl)
  refine ex_if_f rfl (congrArg (!·) (decide_eq_true c37)) ?_
  refine ex_skip (nx ?_)
  refine ex_seq ?_
  refine ex_seq ?_
  refine ex_dr (Mm H5 [0]) (fun _ => True) [0, 0, 2, 7, 15] [2, 3] (.op 0 (.op 1 (.op 2 (.op 3 (.op 4 .nil))))) mix (by kernel_rfl) (by kernel_rfl) ?_
  intro w38 hw hb; have HS := HS.ext hb; clear hw hb
  refine RT.lt rfl rfl rfl rfl (fun w' k => r_lda ((HS.boxAt 0 rfl).k0 (Sub.refl _) (k.kp.none rfl)) ag27 rfl rfl) ?_
  refine RT.lt rfl rfl rfl rfl (fun w' k => r_lda (l4.kp HS.sub k.kp (mh rfl)) ag43 rfl rfl) ?_
  replace h := bind_some h; obtain ⟨y39, e40, h⟩ := h
  refine RT.hy rfl rfl rfl rfl rfl (o_c1 (vs := [.agg #[v_aS0, v_aS1]]) HS (c_laws_toStructure (r_aS0.sub HS.sub) (r_aS1.sub HS.sub) e40) cf24 rfl) (fun _ _ ⟨_, _, hb, _⟩ => km_below hb (fun _ => trivial)) ?_
  rintro _ w41 ⟨cs42, rfl, hb, HS⟩
  replace HS := st_K27 HS
  obtain ⟨v44, v46, rfl, HS⟩ := HS
  replace h := bind_some h; obtain ⟨y47, e48, h⟩ := h
  refine RT.hy rfl rfl rfl rfl rfl (o_cf (vs := [.agg #[v26, v28], .agg #[v44, v46]]) HS rfl (c_laws_eqStructure (HS.rd 3 rfl) (HS.rd 4 rfl) (HS.rd 0 rfl) (HS.rd 1 rfl) e48) cf26 rfl) (fun _ _ ⟨_, hb, _⟩ => km_below hb (fun _ => trivial)) ?_
  rintro _ w49 ⟨rfl, hb, HS⟩
  refine RT.lt rfl rfl rfl rfl (fun w' k => r_not rfl) ?_
  refine RT.nil (nx ?_)
  replace h := ite_some h; rcases h with ⟨c50, h⟩ | ⟨c50, h⟩
  rotate_left
  · refine ex_if_t rfl (congrArg (!·) (bf c50)) ?_
    refine ex_seq ?_
    refine ex_region ?_
    refine ro_lt (r_as (v := .bool false) rfl) rfl ?_
    refine RO.nil (nx ?_)
    obtain rfl := Option.some.inj h
    refine ex_ret (tq_ret ?_)
    exact ret1 (.inr rfl) rfl rfl (P1.of_flat HS hs rfl)
  refine ex_if_f rfl (congrArg (!·) (c50)) ?_
  refine ex_skip (nx ?_)
  refine ex_seq ?_
  refine ex_region ?_
  refine ro_lt (r_as (v := .bool true) rfl) rfl ?_
  refine RO.nil (nx ?_)
  obtain rfl := Option.some.inj h
  refine ex_ret ?_
  exact ret1 (.inr rfl) rfl rfl (P1.of_flat HS hs rfl)
theorem c_laws_markIntS {w : World} {H : Hp} {FR : List Ob} {a : List Int} {v_a0 : Value} {k : Int} (HS : St w H w (.ow (.sl 3 (.int .i64)) a [v_a0] :: FR)) {r : Int × List Int} (h : F_laws_markIntS a k = some r) : Calls Try.prog 84 [v_a0, iv k].toArray w ((fun r => PS (iv r.1) fun w' => St w H w' (.ow (.sl 3 (.int .i64)) r.2 [v_a0] :: FR) : (Int × List Int) → Ending → World → Prop) r) := by
  unfold F_laws_markIntS at h
  refine calls_ex (n := 19) Try.func84 rfl Try.ntmps84 (Nat.le_of_ble_eq_true rfl) ?_
  refine ex_seq ?_
  refine ex_region ?_
  refine ro_lt (r_as (v := iv 0) rfl) rfl ?_
  refine RO.nil (nx ?_)
  refine ex_seq ?_
  refine ex_seq ?_
  refine ex_region ?_
  refine ro_lt (r_as (v := iv 0) rfl) rfl ?_
  refine RO.nil (nx ?_)
  replace h := bind_some h; obtain ⟨y18, e19, h⟩ := h
  refine ex_lbo (fun (st : (List Int) × Int × Int) s' w' => Has s' [(0, v_a0), (1, iv st.2.1), (4, iv 0), (5, iv st.2.2)] ∧ St w H w' (.ow (.sl 3 (.int .i64)) st.1 [v_a0] :: FR)) e19 ⟨⟨rfl, rfl, rfl, rfl, trivial⟩, HS⟩ ?_ ?_
  · rintro ⟨a_9, k_10, i_11⟩ c' s' w12 ⟨hs_, HS⟩ h
    rw [has_put hs_]; clear hs_
    try dsimp only at HS
    replace h : F_laws_markIntS_b1 a_9 k_10 i_11 = some c' := h
    unfold F_laws_markIntS_b1 at h
    refine ex_seq ?_
    refine ex_seq ?_
    refine ex_region ?_
    refine ro_lt (r_mv (v := iv i_11) rfl) rfl ?_
    refine ro_lt (r_mv (v := v_a0) rfl) rfl ?_
    have b13 := (HS.rd 0 rfl).big
    refine ro_lt (r_len (n := 1) (HS.rd 0 rfl) sl25 rfl) rfl ?_
    refine ro_lt (r_lss rfl rfl) rfl ?_
    refine RO.nil (nx ?_)
    replace h := ite_some h; rcases h with ⟨c14, h⟩ | ⟨c14, h⟩
    rotate_left
    · refine ex_if_f rfl (decide_eq_false c14) ?_
      refine ex_exit (tq_exit ?_)
      obtain rfl := Option.some.inj h
      exact lq_out ⟨⟨rfl, rfl, rfl, rfl, trivial⟩, HS⟩
    refine ex_if_t rfl (decide_eq_true c14) ?_
    refine ex_skip (nx ?_)
    refine ex_seq ?_
    refine ex_block ?_
    refine ex_seq ?_
    refine ex_region ?_
    refine ro_lt (r_mv (v := v_a0) rfl) rfl ?_
    refine ro_lt (r_mv (v := iv i_11) rfl) rfl ?_
    refine ro_lt (r_mv (v := iv k_10) rfl) rfl ?_
    replace h := grd_some h; obtain ⟨g15, h⟩ := h
    refine ro_lt (r_ia (HS.rd 0 rfl) sl25 g15.1 g15.2 rfl rfl) rfl ?_
    refine ro_hy (o_set (x' := k_10) HS rfl g15.1 g15.2 st3 rfl rfl) rfl ?_
    rintro _ w16 ⟨rfl, hk, HS⟩
    refine RO.nil (nx ?_)
    refine ex_region ?_
    refine ro_lt (r_mv (v := iv k_10) rfl) rfl ?_
    refine ro_lt (r_addw rfl rfl) rfl ?_
    refine ro_lt (r_as (v := iv (wi (k_10 + 1))) rfl) rfl ?_
    refine RO.nil (blk_nx (nx ?_))
    refine ex_region ?_
    refine ro_lt (r_mv (v := iv i_11) rfl) rfl ?_
    refine ro_lt (r_addw rfl rfl) rfl ?_
    refine ro_lt (r_as (v := iv (wi (i_11 + 1))) rfl) rfl ?_
    refine RO.nil ?_
    obtain rfl := Option.some.inj h
    exact lq_go ⟨⟨rfl, rfl, rfl, rfl, trivial⟩, HS⟩
  rintro s' w20 ⟨hs_, HS⟩
  rw [has_put hs_]; clear hs_
  refine (nx ?_)
  refine ex_seq ?_
  refine ex_region ?_
  refine ro_lt (r_mv (v := iv y18.2.1) rfl) rfl ?_
  refine ro_lt (r_as (v := iv y18.2.1) rfl) rfl ?_
  refine RO.nil (nx ?_)
  obtain rfl := Option.some.inj h
  refine ex_ret ?_
  exact ret1 (.inr rfl) rfl rfl ⟨rfl, HS⟩
theorem c_laws_markNodeS {w : World} {H : Hp} {FR : List Ob} {a : List (List Int × List Int × Int × Int)} {v_a0 : Value} {k : Int} (HS : St w H w (.ow (.sl 72 (.prod (.sl 3 (.int .i64)) (.prod (.sl 3 (.int .i64)) (.prod (.int .i64) (.int .i64))))) a [v_a0] :: FR)) {r : Int × List (List Int × List Int × Int × Int)} (h : F_laws_markNodeS a k = some r) : Calls Try.prog 83 [v_a0, iv k].toArray w ((fun r => PS (iv r.1) fun w' => St w H w' (.ow (.sl 72 (.prod (.sl 3 (.int .i64)) (.prod (.sl 3 (.int .i64)) (.prod (.int .i64) (.int .i64))))) r.2 [v_a0] :: FR) : (Int × List (List Int × List Int × Int × Int)) → Ending → World → Prop) r) := by
  unfold F_laws_markNodeS at h
  refine calls_ex (n := 41) Try.func83 rfl Try.ntmps83 (Nat.le_of_ble_eq_true rfl) ?_
  refine ex_seq ?_
  refine ex_region ?_
  refine ro_lt (r_as (v := iv 0) rfl) rfl ?_
  refine RO.nil (nx ?_)
  refine ex_seq ?_
  refine ex_seq ?_
  refine ex_region ?_
  refine ro_lt (r_as (v := iv 0) rfl) rfl ?_
  refine RO.nil (nx ?_)
  replace h := bind_some h; obtain ⟨y68, e69, h⟩ := h
  refine ex_lbo (fun (st : (List (List Int × List Int × Int × Int)) × Int × Int) s' w' => Has s' [(0, v_a0), (1, iv st.2.1), (4, iv 0), (5, iv st.2.2)] ∧ St w H w' (.ow (.sl 72 (.prod (.sl 3 (.int .i64)) (.prod (.sl 3 (.int .i64)) (.prod (.int .i64) (.int .i64))))) st.1 [v_a0] :: FR)) e69 ⟨⟨rfl, rfl, rfl, rfl, trivial⟩, HS⟩ ?_ ?_
  · rintro ⟨a_9, k_10, i_11⟩ c' s' w12 ⟨hs_, HS⟩ h
    rw [has_put hs_]; clear hs_
    try dsimp only at HS
    replace h : F_laws_markNodeS_b1 a_9 k_10 i_11 = some c' := h
    unfold F_laws_markNodeS_b1 at h
    refine ex_seq ?_
    refine ex_seq ?_
    refine ex_region ?_
    refine ro_lt (r_mv (v := iv i_11) rfl) rfl ?_
    refine ro_lt (r_mv (v := v_a0) rfl) rfl ?_
    have b13 := (HS.rd 0 rfl).big
    refine ro_lt (r_len (n := 4) (HS.rd 0 rfl) sl24 rfl) rfl ?_
    refine ro_lt (r_lss rfl rfl) rfl ?_
    refine RO.nil (nx ?_)
    replace h := ite_some h; rcases h with ⟨c14, h⟩ | ⟨c14, h⟩
    rotate_left
    · refine ex_if_f rfl (decide_eq_false c14) ?_
      refine ex_exit (tq_exit ?_)
      obtain rfl := Option.some.inj h
      exact lq_out ⟨⟨rfl, rfl, rfl, rfl, trivial⟩, HS⟩
    refine ex_if_t rfl (decide_eq_true c14) ?_
    refine ex_skip (nx ?_)
    refine ex_seq ?_
    refine ex_block ?_
    refine ex_seq ?_
    refine ex_region ?_
    refine ro_lt (r_mv (v := v_a0) rfl) rfl ?_
    refine ro_lt (r_mv (v := iv i_11) rfl) rfl ?_
    replace h := grd_some h; obtain ⟨g15, h⟩ := h
    obtain ⟨_, q16, l17⟩ := (HS.rd 0 rfl).idx g15.1 g15.2
    obtain ⟨v18, v20, rfl, r19, r21⟩ := rd_K72 q16
    refine ro_lt (r_ia (HS.rd 0 rfl) sl24 g15.1 g15.2 rfl rfl) rfl ?_
    refine ro_lt (r_fa l17 fd72_0 rfl) rfl ?_
    refine ro_lt (r_ld (l17.seg 0 1) sc25 rfl) rfl ?_
    refine ro_lt (r_mv (v := iv k_10) rfl) rfl ?_
    replace h := bind_some h; obtain ⟨y25, e26, h⟩ := h
    refine ro_hy (o_cs (vs := [v18, iv k_10]) (c_laws_markIntS (sp_K72 (HS.opnA (t := (.prod (.sl 3 (.int .i64)) (.prod (.sl 3 (.int .i64)) (.prod (.int .i64) (.int .i64))))) g15.1 g15.2 l17 rfl)).self e26) cf84 rfl) rfl ?_
    rintro _ w27 ⟨rfl, HS2⟩
    replace HS := (sp_K72 (HS.opnA (t := (.prod (.sl 3 (.int .i64)) (.prod (.sl 3 (.int .i64)) (.prod (.int .i64) (.int .i64))))) g15.1 g15.2 l17 rfl)).from HS2
    replace HS := ((((((((HS.add (t := (.int .i64)) (x := (((a_9.getD i_11.toNat (([] : List Int), ([] : List Int), 0, 0)).2).2).2) rfl rfl).add (t := (.int .i64)) (x := (((a_9.getD i_11.toNat (([] : List Int), ([] : List Int), 0, 0)).2).2).1) rfl rfl).join).sel (G := _ :: _ :: _ :: _ :: FR) [2] 0 rfl).join).sel (G := _ :: _ :: _ :: FR) [1] 0 rfl).join)).cls
    refine ro_lt (r_as (v := iv y25.1) rfl) rfl ?_
    refine RO.nil (nx ?_)
    refine ex_seq ?_
    refine ex_region ?_
    refine ro_lt (r_mv (v := v_a0) rfl) rfl ?_
    refine ro_lt (r_mv (v := iv i_11) rfl) rfl ?_
    obtain ⟨_, q34, l35⟩ := (HS.rd 0 rfl).idx g15.1 (by simpa using g15.2)
    obtain ⟨v36, v38, rfl, r37, r39⟩ := rd_K72 q34
    refine ro_lt (r_ia (HS.rd 0 rfl) sl24 g15.1 (by simpa using g15.2) rfl rfl) rfl ?_
    refine ro_lt (r_fa l35 fd72_1 rfl) rfl ?_
    refine ro_lt (r_ld (l35.seg 1 1) sc25 rfl) rfl ?_
    refine ro_lt (r_mv (v := iv y25.1) rfl) rfl ?_
    replace h := bind_some h; obtain ⟨y43, e44, h⟩ := h
    refine ro_hy (o_cs (vs := [v38, iv y25.1]) (c_laws_markIntS ((sp_K72 (HS.opnA (t := (.prod (.sl 3 (.int .i64)) (.prod (.sl 3 (.int .i64)) (.prod (.int .i64) (.int .i64))))) g15.1 (by simpa using g15.2) l35 rfl)).sel (G := _ :: _ :: _ :: FR) [1] 0 rfl).self e44) cf84 rfl) rfl ?_
    rintro _ w45 ⟨rfl, HS2⟩
    replace HS := ((sp_K72 (HS.opnA (t := (.prod (.sl 3 (.int .i64)) (.prod (.sl 3 (.int .i64)) (.prod (.int .i64) (.int .i64))))) g15.1 (by simpa using g15.2) l35 rfl)).sel (G := _ :: _ :: _ :: FR) [1] 0 rfl).from HS2
    replace HS := ((((((((HS.add (t := (.int .i64)) (x := ((((a_9.set i_11.toNat ((y25.2, ((a_9.getD i_11.toNat (([] : List Int), ([] : List Int), 0, 0)).2).1, (((a_9.getD i_11.toNat (([] : List Int), ([] : List Int), 0, 0)).2).2).1, (((a_9.getD i_11.toNat (([] : List Int), ([] : List Int), 0, 0)).2).2).2))).getD i_11.toNat (([] : List Int), ([] : List Int), 0, 0)).2).2).2) rfl rfl).add (t := (.int .i64)) (x := ((((a_9.set i_11.toNat ((y25.2, ((a_9.getD i_11.toNat (([] : List Int), ([] : List Int), 0, 0)).2).1, (((a_9.getD i_11.toNat (([] : List Int), ([] : List Int), 0, 0)).2).2).1, (((a_9.getD i_11.toNat (([] : List Int), ([] : List Int), 0, 0)).2).2).2))).getD i_11.toNat (([] : List Int), ([] : List Int), 0, 0)).2).2).1) rfl rfl).join).sel (G := _ :: _ :: _ :: _ :: FR) [1] 0 rfl).join).sel (G := _ :: _ :: _ :: FR) [1] 0 rfl).join)).cls
    refine ro_lt (r_as (v := iv y43.1) rfl) rfl ?_
    refine RO.nil (nx ?_)
    refine ex_seq ?_
    refine ex_region ?_
    refine ro_lt (r_mv (v := v_a0) rfl) rfl ?_
    refine ro_lt (r_mv (v := iv i_11) rfl) rfl ?_
    refine ro_lt (r_mv (v := iv y43.1) rfl) rfl ?_
    obtain ⟨_, q52, l53⟩ := (HS.rd 0 rfl).idx g15.1 (by simpa using g15.2)
    obtain ⟨v54, v56, rfl, r55, r57⟩ := rd_K72 q52
    refine ro_lt (r_ia (HS.rd 0 rfl) sl24 g15.1 (by simpa using g15.2) rfl rfl) rfl ?_
    refine ro_lt (r_fa l53 fd72_2 rfl) rfl ?_
    refine ro_hy (o_setf (t := (.prod (.sl 3 (.int .i64)) (.prod (.sl 3 (.int .i64)) (.prod (.int .i64) (.int .i64))))) (off := 2) (V := iv y43.1) _ HS g15.1 (by simpa using g15.2) st3 rfl (up_K72_2 y43.1) rfl rfl) rfl ?_
    rintro _ w58 ⟨rfl, hk, HS⟩
    refine RO.nil (nx ?_)
    refine ex_seq ?_
    refine ex_region ?_
    refine ro_lt (r_mv (v := iv y43.1) rfl) rfl ?_
    refine ro_lt (r_addw rfl rfl) rfl ?_
    refine ro_lt (r_as (v := iv (wi (y43.1 + 1))) rfl) rfl ?_
    refine RO.nil (nx ?_)
    refine ex_seq ?_
    refine ex_region ?_
    refine ro_lt (r_mv (v := v_a0) rfl) rfl ?_
    refine ro_lt (r_mv (v := iv i_11) rfl) rfl ?_
    refine ro_lt (r_mv (v := iv (wi (y43.1 + 1))) rfl) rfl ?_
    obtain ⟨_, q60, l61⟩ := (HS.rd 0 rfl).idx g15.1 (by simpa using g15.2)
    obtain ⟨v62, v64, rfl, r63, r65⟩ := rd_K72 q60
    refine ro_lt (r_ia (HS.rd 0 rfl) sl24 g15.1 (by simpa using g15.2) rfl rfl) rfl ?_
    refine ro_lt (r_fa l61 fd72_3 rfl) rfl ?_
    refine ro_hy (o_setf (t := (.prod (.sl 3 (.int .i64)) (.prod (.sl 3 (.int .i64)) (.prod (.int .i64) (.int .i64))))) (off := 3) (V := iv (wi (y43.1 + 1))) _ HS g15.1 (by simpa using g15.2) st3 rfl (up_K72_3 (wi (y43.1 + 1))) rfl rfl) rfl ?_
    rintro _ w66 ⟨rfl, hk, HS⟩
    refine RO.nil (nx ?_)
    refine ex_region ?_
    refine ro_lt (r_mv (v := iv (wi (y43.1 + 1))) rfl) rfl ?_
    refine ro_lt (r_addw rfl rfl) rfl ?_
    refine ro_lt (r_as (v := iv (wi ((wi (y43.1 + 1)) + 1))) rfl) rfl ?_
    refine RO.nil (blk_nx (nx ?_))
    refine ex_region ?_
    refine ro_lt (r_mv (v := iv i_11) rfl) rfl ?_
    refine ro_lt (r_addw rfl rfl) rfl ?_
    refine ro_lt (r_as (v := iv (wi (i_11 + 1))) rfl) rfl ?_
    refine RO.nil ?_
    obtain rfl := Option.some.inj h
    exact lq_go ⟨⟨rfl, rfl, rfl, rfl, trivial⟩, HS⟩
  rintro s' w70 ⟨hs_, HS⟩
  rw [has_put hs_]; clear hs_
  refine (nx ?_)
  refine ex_seq ?_
  refine ex_region ?_
  refine ro_lt (r_mv (v := iv y68.2.1) rfl) rfl ?_
  refine ro_lt (r_as (v := iv y68.2.1) rfl) rfl ?_
  refine RO.nil (nx ?_)
  obtain rfl := Option.some.inj h
  refine ex_ret ?_
  exact ret1 (.inr rfl) rfl rfl ⟨rfl, HS⟩
theorem c_laws_markStructure {w : World} {H : Hp} {FR : List Ob} {a : (List (List Int × List Int × Int × Int)) × List Int} {v_a0 : Value} {v_a1 : Value} {k : Int} (HS : St w H w (.ow (.sl 72 (.prod (.sl 3 (.int .i64)) (.prod (.sl 3 (.int .i64)) (.prod (.int .i64) (.int .i64))))) a.1 [v_a0] :: .ow (.sl 3 (.int .i64)) a.2 [v_a1] :: FR)) {r : Int × List (List Int × List Int × Int × Int) × List Int} (h : F_laws_markStructure a k = some r) : Calls Try.prog 29 [.agg #[v_a0, v_a1], iv k].toArray w ((fun r => PS (iv r.1) fun w' => St w H w' (.ow (.sl 72 (.prod (.sl 3 (.int .i64)) (.prod (.sl 3 (.int .i64)) (.prod (.int .i64) (.int .i64))))) r.2.1 [v_a0] :: .ow (.sl 3 (.int .i64)) r.2.2 [v_a1] :: FR) : (Int × List (List Int × List Int × Int × Int) × List Int) → Ending → World → Prop) r) := by
  unfold F_laws_markStructure at h
  refine calls_ex (n := 14) Try.func29 rfl Try.ntmps29 (Nat.le_of_ble_eq_true rfl) ?_
  refine ex_seq ?_
  refine ex_region ?_
  refine ro_hy (o_boxz HS (cs := [v_a0, v_a1]) rfl rfl) rfl ?_
  rintro _ w4 ⟨g3, H7, rfl, q5, l6, hb, HS⟩
  refine ro_lt (r_as (v := iv 0) rfl) rfl ?_
  refine RO.nil (nx ?_)
  refine ex_seq ?_
  refine ex_region ?_
  refine ro_lt (r_fa (l6.sub HS.sub) fd27_0 rfl) rfl ?_
  refine ro_lt (r_ld ((l6.seg 0 1).sub HS.sub) sc24 rfl) rfl ?_
  refine ro_lt (r_mv (v := iv k) rfl) rfl ?_
  replace h := bind_some h; obtain ⟨y8, e9, h⟩ := h
  refine ro_hy (o_cs (vs := [v_a0, iv k]) (c_laws_markNodeS HS.self e9) cf83 rfl) rfl ?_
  rintro _ w10 ⟨rfl, HS2⟩
  replace HS := HS.from HS2
  refine ro_lt (r_as (v := iv y8.1) rfl) rfl ?_
  refine RO.nil (nx ?_)
  refine ex_seq ?_
  refine ex_region ?_
  refine ro_lt (r_fa (l6.sub HS.sub) fd27_1 rfl) rfl ?_
  refine ro_lt (r_ld ((l6.seg 1 1).sub HS.sub) sc25 rfl) rfl ?_
  refine ro_lt (r_mv (v := iv y8.1) rfl) rfl ?_
  replace h := bind_some h; obtain ⟨y12, e13, h⟩ := h
  refine ro_hy (o_cs (vs := [v_a1, iv y8.1]) (c_laws_markIntS (HS.sel (G := _ :: _ :: FR) [1] 0 rfl).self e13) cf84 rfl) rfl ?_
  rintro _ w14 ⟨rfl, HS2⟩
  replace HS := (HS.sel (G := _ :: _ :: FR) [1] 0 rfl).from HS2
  refine ro_lt (r_as (v := iv y12.1) rfl) rfl ?_
  refine RO.nil (nx ?_)
  refine ex_seq ?_
  refine ex_region ?_
  refine ro_lt (r_mv (v := iv y12.1) rfl) rfl ?_
  refine ro_lt (r_as (v := iv y12.1) rfl) rfl ?_
  refine RO.nil (nx ?_)
  obtain rfl := Option.some.inj h
  refine ex_ret ?_
  exact ret1 (.inr rfl) rfl rfl ⟨rfl, ((HS.sel (G := _ :: _ :: FR) [1, 0] 0 rfl).weak q5)⟩
theorem c_laws_heldIntS {w : World} {a : List Int} {v_a : Value} {k : Int} (r_a : Rd (.sl 3 (.int .i64)) (hp w) a [v_a]) {r : Int} (h : F_laws_heldIntS a k = some r) : Calls Try.prog 86 [v_a, iv k].toArray w (P1 (.int .i64) w r) := by
  unfold F_laws_heldIntS at h
  have HS := St.init w
  have hs := Sub.refl (hp w)
  refine calls_ex (n := 21) Try.func86 rfl Try.ntmps86 (Nat.le_of_ble_eq_true rfl) ?_
  refine ex_seq ?_
  refine ex_region ?_
  refine ro_lt (r_as (v := iv 0) rfl) rfl ?_
  refine RO.nil (nx ?_)
  refine ex_seq ?_
  refine ex_seq ?_
  refine ex_region ?_
  refine ro_lt (r_as (v := iv 0) rfl) rfl ?_
  refine RO.nil (nx ?_)
  replace h := bind_some h; obtain ⟨y14, e15, h⟩ := h
  refine ex_lbr (fun (st : Int × Int) s' w' => Has s' [(0, v_a), (1, iv st.1), (4, iv 0), (5, iv st.2)] ∧ St w (hp w) w' []) (fun r s' w' => FQ Try.prog Try.f86 21 (P1 (.int .i64) w r) .ret s' w') e15 ⟨⟨rfl, rfl, rfl, rfl, trivial⟩, HS⟩ ?_ ?_
  · rintro ⟨k_7, i_8⟩ c' s' w9 ⟨hs_, HS⟩ h
    rw [has_put hs_]; clear hs_
    try dsimp only at HS
    replace h : F_laws_heldIntS_b1 a k_7 i_8 = some c' := h
    unfold F_laws_heldIntS_b1 at h
    refine ex_seq ?_
    refine ex_seq ?_
    refine ex_region ?_
    refine ro_lt (r_mv (v := iv i_8) rfl) rfl ?_
    refine ro_lt (r_mv (v := v_a) rfl) rfl ?_
    have b10 := (r_a.sub HS.sub).big
    refine ro_lt (r_len (n := 1) (r_a.sub HS.sub) sl25 rfl) rfl ?_
    refine ro_lt (r_lss rfl rfl) rfl ?_
    refine RO.nil (nx ?_)
    replace h := ite_some h; rcases h with ⟨c11, h⟩ | ⟨c11, h⟩
    rotate_left
    · refine ex_if_f rfl (decide_eq_false c11) ?_
      refine ex_exit (tq_exit ?_)
      obtain rfl := Option.some.inj h
      exact lq_out ⟨⟨rfl, rfl, rfl, rfl, trivial⟩, HS⟩
    refine ex_if_t rfl (decide_eq_true c11) ?_
    refine ex_skip (nx ?_)
    refine ex_seq ?_
    refine ex_block ?_
    refine ex_seq ?_
    refine ex_seq ?_
    refine ex_region ?_
    refine ro_lt (r_mv (v := v_a) rfl) rfl ?_
    refine ro_lt (r_mv (v := iv i_8) rfl) rfl ?_
    replace h := grd_some h; obtain ⟨g12, h⟩ := h
    refine ro_lt (r_ia (r_a.sub HS.sub) sl25 g12.1 g12.2 rfl rfl) rfl ?_
    refine ro_lt (r_ld ((r_a.int g12.1 g12.2).sub HS.sub) sc3 rfl) rfl ?_
    refine ro_lt (r_mv (v := iv k_7) rfl) rfl ?_
    refine ro_lt (r_neq rfl rfl) rfl ?_
    refine RO.nil (nx ?_)
    replace h := ite_some h; rcases h with ⟨c13, h⟩ | ⟨c13, h⟩
    rotate_left
    · refine ex_if_t rfl (congrArg (!·) (decide_eq_false c13)) ?_
      refine ex_seq ?_
      refine ex_region ?_
      refine ro_lt (r_as (v := iv ((-1))) rfl) rfl ?_
      refine RO.nil (nx ?_)
      obtain rfl := Option.some.inj h
      refine ex_ret (tq_ret (blk_ret (tq_ret (lq_ret ?_))))
      exact ret1 (.inr rfl) rfl rfl (P1.of_flat HS hs rfl)
    refine ex_if_f rfl (congrArg (!·) (decide_eq_true c13)) ?_
    refine ex_skip (nx ?_)
    refine ex_region ?_
    refine ro_lt (r_mv (v := iv k_7) rfl) rfl ?_
    refine ro_lt (r_addw rfl rfl) rfl ?_
    refine ro_lt (r_as (v := iv (wi (k_7 + 1))) rfl) rfl ?_
    refine RO.nil (blk_nx (nx ?_))
    refine ex_region ?_
    refine ro_lt (r_mv (v := iv i_8) rfl) rfl ?_
    refine ro_lt (r_addw rfl rfl) rfl ?_
    refine ro_lt (r_as (v := iv (wi (i_8 + 1))) rfl) rfl ?_
    refine RO.nil ?_
    obtain rfl := Option.some.inj h
    exact lq_go ⟨⟨rfl, rfl, rfl, rfl, trivial⟩, HS⟩
  rcases y14 with r18 | y14
  · intro s' w' hR
    obtain rfl := Option.some.inj h
    exact (tq_ret hR)
  rintro s' w16 ⟨hs_, HS⟩
  rw [has_put hs_]; clear hs_
  refine (nx ?_)
  refine ex_seq ?_
  refine ex_region ?_
  refine ro_lt (r_mv (v := iv y14.1) rfl) rfl ?_
  refine ro_lt (r_as (v := iv y14.1) rfl) rfl ?_
  refine RO.nil (nx ?_)
  obtain rfl := Option.some.inj h
  refine ex_ret ?_
  exact ret1 (.inr rfl) rfl rfl (P1.of_flat HS hs rfl)
theorem c_laws_heldNodeS {w : World} {a : List (List Int × List Int × Int × Int)} {v_a : Value} {k : Int} (r_a : Rd (.sl 72 (.prod (.sl 3 (.int .i64)) (.prod (.sl 3 (.int .i64)) (.prod (.int .i64) (.int .i64))))) (hp w) a [v_a]) {r : Int} (h : F_laws_heldNodeS a k = some r) : Calls Try.prog 85 [v_a, iv k].toArray w (P1 (.int .i64) w r) := by
  unfold F_laws_heldNodeS at h
  have HS := St.init w
  have hs := Sub.refl (hp w)
  refine calls_ex (n := 49) Try.func85 rfl Try.ntmps85 (Nat.le_of_ble_eq_true rfl) ?_
  refine ex_seq ?_
  refine ex_region ?_
  refine ro_lt (r_as (v := iv 0) rfl) rfl ?_
  refine RO.nil (nx ?_)
  refine ex_seq ?_
  refine ex_seq ?_
  refine ex_region ?_
  refine ro_lt (r_as (v := iv 0) rfl) rfl ?_
  refine RO.nil (nx ?_)
  replace h := bind_some h; obtain ⟨y47, e48, h⟩ := h
  refine ex_lbr (fun (st : Int × Int) s' w' => Has s' [(0, v_a), (1, iv st.1), (4, iv 0), (5, iv st.2)] ∧ St w (hp w) w' []) (fun r s' w' => FQ Try.prog Try.f85 49 (P1 (.int .i64) w r) .ret s' w') e48 ⟨⟨rfl, rfl, rfl, rfl, trivial⟩, HS⟩ ?_ ?_
  · rintro ⟨k_7, i_8⟩ c' s' w9 ⟨hs_, HS⟩ h
    rw [has_put hs_]; clear hs_
    try dsimp only at HS
    replace h : F_laws_heldNodeS_b1 a k_7 i_8 = some c' := h
    unfold F_laws_heldNodeS_b1 at h
    refine ex_seq ?_
    refine ex_seq ?_
    refine ex_region ?_
    refine ro_lt (r_mv (v := iv i_8) rfl) rfl ?_
    refine ro_lt (r_mv (v := v_a) rfl) rfl ?_
    have b10 := (r_a.sub HS.sub).big
    refine ro_lt (r_len (n := 4) (r_a.sub HS.sub) sl24 rfl) rfl ?_
    refine ro_lt (r_lss rfl rfl) rfl ?_
    refine RO.nil (nx ?_)
    replace h := ite_some h; rcases h with ⟨c11, h⟩ | ⟨c11, h⟩
    rotate_left
    · refine ex_if_f rfl (decide_eq_false c11) ?_
      refine ex_exit (tq_exit ?_)
      obtain rfl := Option.some.inj h
      exact lq_out ⟨⟨rfl, rfl, rfl, rfl, trivial⟩, HS⟩
    refine ex_if_t rfl (decide_eq_true c11) ?_
    refine ex_skip (nx ?_)
    refine ex_seq ?_
    refine ex_block ?_
    refine ex_seq ?_
    refine ex_region ?_
    refine ro_lt (r_mv (v := v_a) rfl) rfl ?_
    refine ro_lt (r_mv (v := iv i_8) rfl) rfl ?_
    replace h := grd_some h; obtain ⟨g12, h⟩ := h
    obtain ⟨_, q13, l14⟩ := r_a.idx g12.1 g12.2
    obtain ⟨v15, v17, rfl, r16, r18⟩ := rd_K72 q13
    refine ro_lt (r_ia (r_a.sub HS.sub) sl24 g12.1 g12.2 rfl rfl) rfl ?_
    refine ro_lt (r_fa (l14.sub HS.sub) fd72_0 rfl) rfl ?_
    refine ro_lt (r_ld ((l14.seg 0 1).sub HS.sub) sc25 rfl) rfl ?_
    refine ro_lt (r_mv (v := iv k_7) rfl) rfl ?_
    replace h := bind_some h; obtain ⟨y19, e20, h⟩ := h
    refine ro_hy (o_cf (vs := [v15, iv k_7]) HS rfl (c_laws_heldIntS (r16.sub HS.sub) e20) cf86 rfl) rfl ?_
    rintro _ w21 ⟨rfl, hb, HS⟩
    refine ro_lt (r_as (v := iv y19) rfl) rfl ?_
    refine RO.nil (nx ?_)
    refine ex_seq ?_
    refine ex_seq ?_
    refine ex_region ?_
    refine ro_lt (r_mv (v := iv y19) rfl) rfl ?_
    refine ro_lt (r_lss rfl rfl) rfl ?_
    refine RO.nil (nx ?_)
    replace h := ite_some h; rcases h with ⟨c22, h⟩ | ⟨c22, h⟩
    · refine ex_if_t rfl (decide_eq_true c22) ?_
      refine ex_seq ?_
      refine ex_region ?_
      refine ro_lt (r_as (v := iv ((-1))) rfl) rfl ?_
      refine RO.nil (nx ?_)
      obtain rfl := Option.some.inj h
      refine ex_ret (tq_ret (blk_ret (tq_ret (lq_ret ?_))))
      exact ret1 (.inr rfl) rfl rfl (P1.of_flat HS hs rfl)
    refine ex_if_f rfl (decide_eq_false c22) ?_
    refine ex_skip (nx ?_)
    refine ex_seq ?_
    refine ex_region ?_
    refine ro_lt (r_mv (v := v_a) rfl) rfl ?_
    refine ro_lt (r_mv (v := iv i_8) rfl) rfl ?_
    obtain ⟨_, q23, l24⟩ := r_a.idx g12.1 g12.2
    obtain ⟨v25, v27, rfl, r26, r28⟩ := rd_K72 q23
    refine ro_lt (r_ia (r_a.sub HS.sub) sl24 g12.1 g12.2 rfl rfl) rfl ?_
    refine ro_lt (r_fa (l24.sub HS.sub) fd72_1 rfl) rfl ?_
    refine ro_lt (r_ld ((l24.seg 1 1).sub HS.sub) sc25 rfl) rfl ?_
    refine ro_lt (r_mv (v := iv y19) rfl) rfl ?_
    replace h := bind_some h; obtain ⟨y29, e30, h⟩ := h
    refine ro_hy (o_cf (vs := [v27, iv y19]) HS rfl (c_laws_heldIntS (r28.sub HS.sub) e30) cf86 rfl) rfl ?_
    rintro _ w31 ⟨rfl, hb, HS⟩
    refine ro_lt (r_as (v := iv y29) rfl) rfl ?_
    refine RO.nil (nx ?_)
    refine ex_seq ?_
    refine ex_seq ?_
    refine ex_region ?_
    refine ro_lt (r_mv (v := iv y29) rfl) rfl ?_
    refine ro_lt (r_lss rfl rfl) rfl ?_
    refine RO.nil (nx ?_)
    replace h := ite_some h; rcases h with ⟨c32, h⟩ | ⟨c32, h⟩
    · refine ex_if_t rfl (decide_eq_true c32) ?_
      refine ex_seq ?_
      refine ex_region ?_
      refine ro_lt (r_as (v := iv ((-1))) rfl) rfl ?_
      refine RO.nil (nx ?_)
      obtain rfl := Option.some.inj h
      refine ex_ret (tq_ret (blk_ret (tq_ret (lq_ret ?_))))
      exact ret1 (.inr rfl) rfl rfl (P1.of_flat HS hs rfl)
    refine ex_if_f rfl (decide_eq_false c32) ?_
    refine ex_skip (nx ?_)
    refine ex_seq ?_
    refine ex_seq ?_
    refine ex_region ?_
    refine ro_lt (r_mv (v := v_a) rfl) rfl ?_
    refine ro_lt (r_mv (v := iv i_8) rfl) rfl ?_
    obtain ⟨_, q33, l34⟩ := r_a.idx g12.1 g12.2
    obtain ⟨v35, v37, rfl, r36, r38⟩ := rd_K72 q33
    refine ro_lt (r_ia (r_a.sub HS.sub) sl24 g12.1 g12.2 rfl rfl) rfl ?_
    refine ro_lt (r_fa (l34.sub HS.sub) fd72_2 rfl) rfl ?_
    refine ro_lt (r_ld ((l34.seg 2 1).sub HS.sub) sc3 rfl) rfl ?_
    refine ro_lt (r_mv (v := iv y29) rfl) rfl ?_
    refine ro_lt (r_neq rfl rfl) rfl ?_
    refine RO.nil (nx ?_)
    replace h := ite_some h; rcases h with ⟨c39, h⟩ | ⟨c39, h⟩
    rotate_left
    · refine ex_if_t rfl (congrArg (!·) (decide_eq_false c39)) ?_
      refine ex_seq ?_
      refine ex_region ?_
      refine ro_lt (r_as (v := iv ((-1))) rfl) rfl ?_
      refine RO.nil (nx ?_)
      obtain rfl := Option.some.inj h
      refine ex_ret (tq_ret (blk_ret (tq_ret (lq_ret ?_))))
      exact ret1 (.inr rfl) rfl rfl (P1.of_flat HS hs rfl)
    refine ex_if_f rfl (congrArg (!·) (decide_eq_true c39)) ?_
    refine ex_skip (nx ?_)
    refine ex_seq ?_
    refine ex_region ?_
    refine ro_lt (r_mv (v := iv y29) rfl) rfl ?_
    refine ro_lt (r_addw rfl rfl) rfl ?_
    refine ro_lt (r_as (v := iv (wi (y29 + 1))) rfl) rfl ?_
    refine RO.nil (nx ?_)
    refine ex_seq ?_
    refine ex_seq ?_
    refine ex_region ?_
    refine ro_lt (r_mv (v := v_a) rfl) rfl ?_
    refine ro_lt (r_mv (v := iv i_8) rfl) rfl ?_
    obtain ⟨_, q40, l41⟩ := r_a.idx g12.1 g12.2
    obtain ⟨v42, v44, rfl, r43, r45⟩ := rd_K72 q40
    refine ro_lt (r_ia (r_a.sub HS.sub) sl24 g12.1 g12.2 rfl rfl) rfl ?_
    refine ro_lt (r_fa (l41.sub HS.sub) fd72_3 rfl) rfl ?_
    refine ro_lt (r_ld ((l41.seg 3 1).sub HS.sub) sc3 rfl) rfl ?_
    refine ro_lt (r_mv (v := iv (wi (y29 + 1))) rfl) rfl ?_
    refine ro_lt (r_neq rfl rfl) rfl ?_
    refine RO.nil (nx ?_)
    replace h := ite_some h; rcases h with ⟨c46, h⟩ | ⟨c46, h⟩
    rotate_left
    · refine ex_if_t rfl (congrArg (!·) (decide_eq_false c46)) ?_
      refine ex_seq ?_
      refine ex_region ?_
      refine ro_lt (r_as (v := iv ((-1))) rfl) rfl ?_
      refine RO.nil (nx ?_)
      obtain rfl := Option.some.inj h
      refine ex_ret (tq_ret (blk_ret (tq_ret (lq_ret ?_))))
      exact ret1 (.inr rfl) rfl rfl (P1.of_flat HS hs rfl)
    refine ex_if_f rfl (congrArg (!·) (decide_eq_true c46)) ?_
    refine ex_skip (nx ?_)
    refine ex_region ?_
    refine ro_lt (r_mv (v := iv (wi (y29 + 1))) rfl) rfl ?_
    refine ro_lt (r_addw rfl rfl) rfl ?_
    refine ro_lt (r_as (v := iv (wi ((wi (y29 + 1)) + 1))) rfl) rfl ?_
    refine RO.nil (blk_nx (nx ?_))
    refine ex_region ?_
    refine ro_lt (r_mv (v := iv i_8) rfl) rfl ?_
    refine ro_lt (r_addw rfl rfl) rfl ?_
    refine ro_lt (r_as (v := iv (wi (i_8 + 1))) rfl) rfl ?_
    refine RO.nil ?_
    obtain rfl := Option.some.inj h
    exact lq_go ⟨⟨rfl, rfl, rfl, rfl, trivial⟩, HS⟩
  rcases y47 with r51 | y47
  · intro s' w' hR
    obtain rfl := Option.some.inj h
    exact (tq_ret hR)
  rintro s' w49 ⟨hs_, HS⟩
  rw [has_put hs_]; clear hs_
  refine (nx ?_)
  refine ex_seq ?_
  refine ex_region ?_
  refine ro_lt (r_mv (v := iv y47.1) rfl) rfl ?_
  refine ro_lt (r_as (v := iv y47.1) rfl) rfl ?_
  refine RO.nil (nx ?_)
  obtain rfl := Option.some.inj h
  refine ex_ret ?_
  exact ret1 (.inr rfl) rfl rfl (P1.of_flat HS hs rfl)
theorem c_laws_heldStructure {w : World} {a : (List (List Int × List Int × Int × Int)) × List Int} {v_a0 : Value} {v_a1 : Value} {k : Int} (r_a0 : Rd (.sl 72 (.prod (.sl 3 (.int .i64)) (.prod (.sl 3 (.int .i64)) (.prod (.int .i64) (.int .i64))))) (hp w) a.1 [v_a0]) (r_a1 : Rd (.sl 3 (.int .i64)) (hp w) a.2 [v_a1]) {r : Int} (h : F_laws_heldStructure a k = some r) : Calls Try.prog 30 [.agg #[v_a0, v_a1], iv k].toArray w (P1 (.int .i64) w r) := by
  unfold F_laws_heldStructure at h
  have HS := St.init w
  have hs := Sub.refl (hp w)
  refine calls_ex (n := 18) Try.func30 rfl Try.ntmps30 (Nat.le_of_ble_eq_true rfl) ?_
  refine ex_seq ?_
  refine ex_region ?_
  refine ro_hy (o_boxz HS (cs := [v_a0, v_a1]) rfl rfl) rfl ?_
  rintro _ w2 ⟨g1, H5, rfl, q3, l4, hb, HS⟩
  replace r_a0 := r_a0.sub q3
  replace r_a1 := r_a1.sub q3
  replace hs := hs.trans q3
  refine ro_lt (r_as (v := iv 0) rfl) rfl ?_
  refine RO.nil (nx ?_)
  refine ex_seq ?_
  refine ex_region ?_
  refine ro_lt (r_fa (l4.sub HS.sub) fd27_0 rfl) rfl ?_
  refine ro_lt (r_ld ((l4.seg 0 1).sub HS.sub) sc24 rfl) rfl ?_
  refine ro_lt (r_mv (v := iv k) rfl) rfl ?_
  replace h := bind_some h; obtain ⟨y6, e7, h⟩ := h
  refine ro_hy (o_cf (vs := [v_a0, iv k]) HS rfl (c_laws_heldNodeS (r_a0.sub HS.sub) e7) cf85 rfl) rfl ?_
  rintro _ w8 ⟨rfl, hb, HS⟩
  refine ro_lt (r_as (v := iv y6) rfl) rfl ?_
  refine RO.nil (nx ?_)
  refine ex_seq ?_
  refine ex_seq ?_
  refine ex_region ?_
  refine ro_lt (r_mv (v := iv y6) rfl) rfl ?_
  refine ro_lt (r_lss rfl rfl) rfl ?_
  refine RO.nil (nx ?_)
  replace h := ite_some h; rcases h with ⟨c9, h⟩ | ⟨c9, h⟩
  · refine ex_if_t rfl (decide_eq_true c9) ?_
    refine ex_seq ?_
    refine ex_region ?_
    refine ro_lt (r_as (v := iv ((-1))) rfl) rfl ?_
    refine RO.nil (nx ?_)
    obtain rfl := Option.some.inj h
    refine ex_ret (tq_ret ?_)
    exact ret1 (.inr rfl) rfl rfl (P1.of_flat HS hs rfl)
  refine ex_if_f rfl (decide_eq_false c9) ?_
  refine ex_skip (nx ?_)
  refine ex_seq ?_
  refine ex_region ?_
  refine ro_lt (r_fa (l4.sub HS.sub) fd27_1 rfl) rfl ?_
  refine ro_lt (r_ld ((l4.seg 1 1).sub HS.sub) sc25 rfl) rfl ?_
  refine ro_lt (r_mv (v := iv y6) rfl) rfl ?_
  replace h := bind_some h; obtain ⟨y10, e11, h⟩ := h
  refine ro_hy (o_cf (vs := [v_a1, iv y6]) HS rfl (c_laws_heldIntS (r_a1.sub HS.sub) e11) cf86 rfl) rfl ?_
  rintro _ w12 ⟨rfl, hb, HS⟩
  refine ro_lt (r_as (v := iv y10) rfl) rfl ?_
  refine RO.nil (nx ?_)
  refine ex_seq ?_
  refine ex_seq ?_
  refine ex_region ?_
  refine ro_lt (r_mv (v := iv y10) rfl) rfl ?_
  refine ro_lt (r_lss rfl rfl) rfl ?_
  refine RO.nil (nx ?_)
  replace h := ite_some h; rcases h with ⟨c13, h⟩ | ⟨c13, h⟩
  · refine ex_if_t rfl (decide_eq_true c13) ?_
    refine ex_seq ?_
    refine ex_region ?_
    refine ro_lt (r_as (v := iv ((-1))) rfl) rfl ?_
    refine RO.nil (nx ?_)
    obtain rfl := Option.some.inj h
    refine ex_ret (tq_ret ?_)
    exact ret1 (.inr rfl) rfl rfl (P1.of_flat HS hs rfl)
  refine ex_if_f rfl (decide_eq_false c13) ?_
  refine ex_skip (nx ?_)
  refine ex_seq ?_
  refine ex_region ?_
  refine ro_lt (r_mv (v := iv y10) rfl) rfl ?_
  refine ro_lt (r_as (v := iv y10) rfl) rfl ?_
  refine RO.nil (nx ?_)
  obtain rfl := Option.some.inj h
  refine ex_ret ?_
  exact ret1 (.inr rfl) rfl rfl (P1.of_flat HS hs rfl)
theorem c_laws_FnExactBlur {w : World} {aS : (List (List Int × List Int × Int × Int)) × List Int} {v_aS0 : Value} {v_aS1 : Value} (r_aS0 : Rd (.sl 123 (.prod (.sl 3 (.int .i64)) (.prod (.sl 3 (.int .i64)) (.prod (.int .i64) (.int .i64))))) (hp w) aS.1 [v_aS0]) (r_aS1 : Rd (.sl 3 (.int .i64)) (hp w) aS.2 [v_aS1]) {r : Bool} (h : F_laws_FnExactBlur aS = some r) : Calls Try.prog 7 [.agg #[v_aS0, v_aS1]].toArray w (P1 .bool w r) := by
  unfold F_laws_FnExactBlur at h
  have HS := St.init w
  have hs := Sub.refl (hp w)
  refine calls_ex (n := 69) Try.func7 rfl Try.ntmps7 (Nat.le_of_ble_eq_true rfl) ?_
  refine ex_seq ?_
  refine ex_region ?_
  refine ro_hy (o_boxz HS (cs := [v_aS0, v_aS1]) rfl rfl) rfl ?_
  rintro _ w2 ⟨g1, H5, rfl, q3, l4, hb, HS⟩
  replace r_aS0 := r_aS0.sub q3
  replace r_aS1 := r_aS1.sub q3
  replace hs := hs.trans q3
  refine ro_lt (r_as (v := .bool false) rfl) rfl ?_
  refine RO.nil (nx ?_)
  refine ex_seq ?_
  refine ex_region ?_
  refine ro_lt (r_as (v := iv 1048576) rfl) rfl ?_
  refine RO.nil (nx ?_)
  refine ex_seq ?_
  refine ex_region ?_
  refine ro_lt (r_lda (l4.sub HS.sub) ag43 rfl rfl) rfl ?_
  refine ro_lt (r_mv (v := iv 1048576) rfl) rfl ?_
  replace h := bind_some h; obtain ⟨y6, e7, h⟩ := h
  refine ro_hy (o_cf (vs := [.agg #[v_aS0, v_aS1], iv 1048576]) HS rfl (c_laws_szStructure (r_aS0.sub HS.sub) (r_aS1.sub HS.sub) e7) cf22 rfl) rfl ?_
  rintro _ w8 ⟨rfl, hb, HS⟩
  refine ro_lt (r_as (v := iv y6) rfl) rfl ?_
  refine RO.nil (nx ?_)
  refine ex_seq ?_
  refine ex_seq ?_
  refine ex_region ?_
  refine ro_lt (r_mv (v := iv y6) rfl) rfl ?_
  refine ro_lt (r_lss rfl rfl) rfl ?_
  refine RO.nil (nx ?_)
  replace h := ite_some h; rcases h with ⟨c9, h⟩ | ⟨c9, h⟩
  · refine ex_if_t rfl (decide_eq_true c9) ?_
    refine ex_seq ?_
    refine ex_region ?_
    refine ro_lt (r_as (v := .bool true) rfl) rfl ?_
    refine RO.nil (nx ?_)
    obtain rfl := Option.some.inj h
    refine ex_ret (tq_ret ?_)
    exact ret1 (.inr rfl) rfl rfl (P1.of_flat HS hs rfl)
  refine ex_if_f rfl (decide_eq_false c9) ?_
  refine ex_skip (nx ?_)
  refine ex_seq ?_
  refine ex_region ?_
  refine ro_lt (r_lda (l4.sub HS.sub) ag43 rfl rfl) rfl ?_
  replace h := bind_some h; obtain ⟨y10, e11, h⟩ := h
  refine ro_hy (o_c1 (vs := [.agg #[v_aS0, v_aS1]]) HS (c_laws_toStructure (r_aS0.sub HS.sub) (r_aS1.sub HS.sub) e11) cf24 rfl) rfl ?_
  rintro _ w12 ⟨cs13, rfl, hb, HS⟩
  replace HS := st_K27 HS
  obtain ⟨v15, v17, rfl, HS⟩ := HS
  replace h := bind_some h; obtain ⟨y18, e19, h⟩ := h
  refine ro_hy (o_c1 (vs := [.agg #[v15, v17]]) HS (c_spec_Blur (HS.rd 0 rfl) (HS.rd 1 rfl) e19) cf33 rfl) rfl ?_
  rintro _ w20 ⟨cs21, rfl, hb, HS⟩
  replace HS := st_K27 HS
  obtain ⟨v23, v25, rfl, HS⟩ := HS
  refine ro_hy (o_alloc HS (cs := [.slice none 0 0, .slice none 0 0]) ze27 rfl) rfl ?_
  rintro _ w27 ⟨g26, rfl, hb, HS⟩
  refine ro_hy (o_str (off := 0) (vs := [v23, v25]) (l' := [v23, v25]) HS rfl rfl rfl st27 rfl rfl (pl (HS.rd 1 rfl).pl (pl (HS.rd 2 rfl).pl pl0)) rfl) rfl ?_
  rintro _ w29 ⟨rfl, hk, HS⟩
  refine RO.nil (nx ?_)
  refine ex_seq ?_
  refine ex_region ?_
  refine ro_lt (r_lda (l4.sub HS.sub) ag43 rfl rfl) rfl ?_
  replace h := bind_some h; obtain ⟨y31, e32, h⟩ := h
  refine ro_hy (o_c1 (vs := [.agg #[v_aS0, v_aS1]]) HS (c_laws_toStructure (r_aS0.sub HS.sub) (r_aS1.sub HS.sub) e32) cf24 rfl) rfl ?_
  rintro _ w33 ⟨cs34, rfl, hb, HS⟩
  replace HS := st_K27 HS
  obtain ⟨v36, v38, rfl, HS⟩ := HS
  refine ro_hy (o_alloc HS (cs := [.slice none 0 0, .slice none 0 0]) ze27 rfl) rfl ?_
  rintro _ w40 ⟨g39, rfl, hb, HS⟩
  refine ro_hy (o_str (off := 0) (vs := [v36, v38]) (l' := [v36, v38]) HS rfl rfl rfl st27 rfl rfl (pl (HS.rd 1 rfl).pl (pl (HS.rd 2 rfl).pl pl0)) rfl) rfl ?_
  rintro _ w42 ⟨rfl, hk, HS⟩
  refine RO.nil (nx ?_)
  refine ex_seq ?_
  refine ex_region ?_
  refine ro_lt (r_lda (HS.boxAt 0 rfl) ag27 rfl rfl) rfl ?_
  replace h := bind_some h; obtain ⟨y44, e45, h⟩ := h
  refine ro_hy (o_c1 (vs := [.agg #[v36, v38]]) HS (c_impl_Blur (HS.rd 1 rfl) (HS.rd 2 rfl) e45) cf34 rfl) rfl ?_
  rintro _ w46 ⟨cs47, rfl, hb, HS⟩
  replace HS := st_K27 HS
  obtain ⟨v49, v51, rfl, HS⟩ := HS
  refine ro_hy (o_alloc HS (cs := [.slice none 0 0, .slice none 0 0]) ze27 rfl) rfl ?_
  rintro _ w53 ⟨g52, rfl, hb, HS⟩
  refine ro_hy (o_str (off := 0) (vs := [v49, v51]) (l' := [v49, v51]) HS rfl rfl rfl st27 rfl rfl (pl (HS.rd 1 rfl).pl (pl (HS.rd 2 rfl).pl pl0)) rfl) rfl ?_
  rintro _ w55 ⟨rfl, hk, HS⟩
  refine RO.nil (nx ?_)
  refine ex_seq ?_
  refine ex_seq ?_
  refine ex_region ?_
  refine ro_lt (r_lda (HS.boxAt 0 rfl) ag27 rfl rfl) rfl ?_
  refine ro_lt (r_lda (HS.boxAt 6 rfl) ag27 rfl rfl) rfl ?_
  replace h := bind_some h; obtain ⟨y57, e58, h⟩ := h
  refine ro_hy (o_cf (vs := [.agg #[v49, v51], .agg #[v23, v25]]) HS rfl (c_laws_eqStructure (HS.rd 1 rfl) (HS.rd 2 rfl) (HS.rd 7 rfl) (HS.rd 8 rfl) e58) cf26 rfl) rfl ?_
  rintro _ w59 ⟨rfl, hb, HS⟩
  refine ro_lt (r_not rfl) rfl ?_
  refine RO.nil (nx ?_)
  replace h := ite_some h; rcases h with ⟨c60, h⟩ | ⟨c60, h⟩
  rotate_left
  · refine ex_if_t rfl (congrArg (!·) (bf c60)) ?_
    refine ex_seq ?_
    refine ex_region ?_
    refine ro_lt (r_as (v := .bool false) rfl) rfl ?_
    refine RO.nil (nx ?_)
    obtain rfl := Option.some.inj h
    refine ex_ret (tq_ret ?_)
    exact ret1 (.inr rfl) rfl rfl (P1.of_flat HS hs rfl)
  refine ex_if_f rfl (congrArg (!·) (c60)) ?_
  refine ex_skip (nx ?_)
  refine ex_seq ?_
  refine ex_seq ?_
  refine ex_dr (Mm H5 [0]) (fun _ => True) [0, 0, 2, 7, 15] [2, 3] (.op 0 (.op 1 (.op 2 (.op 3 (.op 4 .nil))))) mix (by kernel_rfl) (by kernel_rfl) ?_
  intro w61 hw hb; have HS := HS.ext hb; clear hw hb
  refine RT.lt rfl rfl rfl rfl (fun w' k => r_lda ((HS.boxAt 3 rfl).k0 (Sub.refl _) (k.kp.none rfl)) ag27 rfl rfl) ?_
  refine RT.lt rfl rfl rfl rfl (fun w' k => r_lda (l4.kp HS.sub k.kp (mh rfl)) ag43 rfl rfl) ?_
  replace h := bind_some h; obtain ⟨y62, e63, h⟩ := h
  refine RT.hy rfl rfl rfl rfl rfl (o_c1 (vs := [.agg #[v_aS0, v_aS1]]) HS (c_laws_toStructure (r_aS0.sub HS.sub) (r_aS1.sub HS.sub) e63) cf24 rfl) (fun _ _ ⟨_, _, hb, _⟩ => km_below hb (fun _ => trivial)) ?_
  rintro _ w64 ⟨cs65, rfl, hb, HS⟩
  replace HS := st_K27 HS
  obtain ⟨v67, v69, rfl, HS⟩ := HS
  replace h := bind_some h; obtain ⟨y70, e71, h⟩ := h
  refine RT.hy rfl rfl rfl rfl rfl (o_cf (vs := [.agg #[v36, v38], .agg #[v67, v69]]) HS rfl (c_laws_eqStructure (HS.rd 6 rfl) (HS.rd 7 rfl) (HS.rd 0 rfl) (HS.rd 1 rfl) e71) cf26 rfl) (fun _ _ ⟨_, hb, _⟩ => km_below hb (fun _ => trivial)) ?_
  rintro _ w72 ⟨rfl, hb, HS⟩
  refine RT.lt rfl rfl rfl rfl (fun w' k => r_not rfl) ?_
  refine RT.nil (nx ?_)
  replace h := ite_some h; rcases h with ⟨c73, h⟩ | ⟨c73, h⟩
  rotate_left
  · refine ex_if_t rfl (congrArg (!·) (bf c73)) ?_
    refine ex_seq ?_
    refine ex_region ?_
    refine ro_lt (r_as (v := .bool false) rfl) rfl ?_
    refine RO.nil (nx ?_)
    obtain rfl := Option.some.inj h
    refine ex_ret (tq_ret ?_)
    exact ret1 (.inr rfl) rfl rfl (P1.of_flat HS hs rfl)
  refine ex_if_f rfl (congrArg (!·) (c73)) ?_
  refine ex_skip (nx ?_)
  refine ex_seq ?_
  refine ex_region ?_
  refine ro_lt (r_as (v := iv 1) rfl) rfl ?_
  refine RO.nil (nx ?_)
  refine ex_seq ?_
  refine ex_region ?_
  refine ro_lt (r_lda (HS.boxAt 5 rfl) ag27 rfl rfl) rfl ?_
  refine ro_lt (r_mv (v := iv 1) rfl) rfl ?_
  replace h := bind_some h; obtain ⟨y74, e75, h⟩ := h
  refine ro_hy (o_cs (vs := [.agg #[v36, v38], iv 1]) (c_laws_markStructure (HS.sel (G := [_, _, _, _, _, _, _, _, _, _, _, _, _]) [6, 6] 0 rfl).self e75) cf29 rfl) rfl ?_
  rintro _ w76 ⟨rfl, HS2⟩
  replace HS := (HS.sel (G := [_, _, _, _, _, _, _, _, _, _, _, _, _]) [6, 6] 0 rfl).from HS2
  refine ro_lt (r_as (v := iv y74.1) rfl) rfl ?_
  refine RO.nil (nx ?_)
  refine ex_seq ?_
  refine ex_seq ?_
  refine ex_region ?_
  refine ro_lt (r_mv (v := iv y74.1) rfl) rfl ?_
  refine ro_lt (r_lss rfl rfl) rfl ?_
  refine ro_lt (r_mv (v := .bool ((decide (y74.1 < 0)))) rfl) rfl ?_
  replace h := ite_some h; rcases h with ⟨c78, h⟩ | ⟨c78, h⟩
  · refine ro_off (sb (decide_eq_true c78)) rfl rfl ?_
    refine ro_off (sb (decide_eq_true c78)) rfl rfl ?_
    refine ro_off (sb (decide_eq_true c78)) rfl rfl ?_
    refine ro_off (sb (decide_eq_true c78)) rfl rfl ?_
    refine ro_lt (r_pickt (v := .bool true) (decide_eq_true c78) rfl rfl) rfl ?_
    refine RO.nil (nx ?_)
    refine ex_if_t rfl (rfl) ?_
    refine ex_seq ?_
    refine ex_region ?_
    refine ro_lt (r_as (v := .bool false) rfl) rfl ?_
    refine RO.nil (nx ?_)
    obtain rfl := Option.some.inj h
    refine ex_ret (tq_ret ?_)
    exact ret1 (.inr rfl) rfl rfl (P1.of_flat HS hs rfl)
  refine ro_on (sb (decide_eq_false c78)) ?_
  refine ro_lt (r_lda (HS.boxAt 4 rfl) ag27 rfl rfl) rfl ?_
  refine ro_on (sb (decide_eq_false c78)) ?_
  refine ro_lt (r_lda (HS.boxAt 8 rfl) ag27 rfl rfl) rfl ?_
  replace h := bind_some h; obtain ⟨y79, e80, h⟩ := h
  refine ro_on (sb (decide_eq_false c78)) ?_
  refine ro_hy (o_cf (vs := [.agg #[v49, v51], .agg #[v23, v25]]) HS rfl (c_laws_eqStructure (HS.rd 5 rfl) (HS.rd 6 rfl) (HS.rd 9 rfl) (HS.rd 10 rfl) e80) cf26 rfl) rfl ?_
  rintro _ w81 ⟨rfl, hb, HS⟩
  refine ro_on (sb (decide_eq_false c78)) ?_
  refine ro_lt (r_not rfl) rfl ?_
  refine ro_lt (r_pickf (v := .bool ((!y79))) (decide_eq_false c78) rfl rfl) rfl ?_
  refine RO.nil (nx ?_)
  replace h := ite_some h; rcases h with ⟨c82, h⟩ | ⟨c82, h⟩
  rotate_left
  · refine ex_if_t rfl (congrArg (!·) (bf c82)) ?_
    refine ex_seq ?_
    refine ex_region ?_
    refine ro_lt (r_as (v := .bool false) rfl) rfl ?_
    refine RO.nil (nx ?_)
    obtain rfl := Option.some.inj h
    refine ex_ret (tq_ret ?_)
    exact ret1 (.inr rfl) rfl rfl (P1.of_flat HS hs rfl)
  refine ex_if_f rfl (congrArg (!·) (c82)) ?_
  refine ex_skip (nx ?_)
  refine ex_seq ?_
  refine ex_region ?_
  refine ro_lt (r_as (v := iv 1) rfl) rfl ?_
  refine RO.nil (nx ?_)
  refine ex_seq ?_
  refine ex_region ?_
  refine ro_lt (r_lda (HS.boxAt 4 rfl) ag27 rfl rfl) rfl ?_
  refine ro_lt (r_mv (v := iv 1) rfl) rfl ?_
  replace h := bind_some h; obtain ⟨y83, e84, h⟩ := h
  refine ro_hy (o_cs (vs := [.agg #[v49, v51], iv 1]) (c_laws_markStructure (HS.sel (G := [_, _, _, _, _, _, _, _, _, _, _, _, _]) [5, 5] 0 rfl).self e84) cf29 rfl) rfl ?_
  rintro _ w85 ⟨rfl, HS2⟩
  replace HS := (HS.sel (G := [_, _, _, _, _, _, _, _, _, _, _, _, _]) [5, 5] 0 rfl).from HS2
  refine ro_lt (r_as (v := iv y83.1) rfl) rfl ?_
  refine RO.nil (nx ?_)
  refine ex_seq ?_
  refine ex_region ?_
  refine ro_lt (r_as (v := iv 1) rfl) rfl ?_
  refine RO.nil (nx ?_)
  refine ex_seq ?_
  refine ex_region ?_
  refine ro_lt (r_lda (HS.boxAt 6 rfl) ag27 rfl rfl) rfl ?_
  refine ro_lt (r_mv (v := iv 1) rfl) rfl ?_
  replace h := bind_some h; obtain ⟨y87, e88, h⟩ := h
  refine ro_hy (o_cf (vs := [.agg #[v49, v51], iv 1]) HS rfl (c_laws_heldStructure (HS.rd 0 rfl) (HS.rd 1 rfl) e88) cf30 rfl) rfl ?_
  rintro _ w89 ⟨rfl, hb, HS⟩
  refine ro_lt (r_as (v := iv y87) rfl) rfl ?_
  refine RO.nil (nx ?_)
  refine ex_seq ?_
  refine ex_seq ?_
  refine ex_region ?_
  refine ro_lt (r_mv (v := iv y87) rfl) rfl ?_
  refine ro_lt (r_lss rfl rfl) rfl ?_
  refine RO.nil (nx ?_)
  replace h := ite_some h; rcases h with ⟨c90, h⟩ | ⟨c90, h⟩
  · refine ex_if_t rfl (decide_eq_true c90) ?_
    refine ex_seq ?_
    refine ex_region ?_
    refine ro_lt (r_as (v := .bool false) rfl) rfl ?_
    refine RO.nil (nx ?_)
    obtain rfl := Option.some.inj h
    refine ex_ret (tq_ret ?_)
    exact ret1 (.inr rfl) rfl rfl (P1.of_flat HS hs rfl)
  refine ex_if_f rfl (decide_eq_false c90) ?_
  refine ex_skip (nx ?_)
  refine ex_seq ?_
  refine ex_seq ?_
  refine ex_region ?_
  refine ro_lt (r_mv (v := iv y87) rfl) rfl ?_
  refine ro_lt (r_mv (v := iv y83.1) rfl) rfl ?_
  refine ro_lt (r_neq rfl rfl) rfl ?_
  refine RO.nil (nx ?_)
  replace h := ite_some h; rcases h with ⟨c91, h⟩ | ⟨c91, h⟩
  rotate_left
  · refine ex_if_t rfl (congrArg (!·) (decide_eq_false c91)) ?_
    refine ex_seq ?_
    refine ex_region ?_
    refine ro_lt (r_as (v := .bool false) rfl) rfl ?_
    refine RO.nil (nx ?_)
    obtain rfl := Option.some.inj h
    refine ex_ret (tq_ret ?_)
    exact ret1 (.inr rfl) rfl rfl (P1.of_flat HS hs rfl)
  refine ex_if_f rfl (congrArg (!·) (decide_eq_true c91)) ?_
  refine ex_skip (nx ?_)
  refine ex_seq ?_
  refine ex_region ?_
  refine ro_lt (r_lda (l4.sub HS.sub) ag43 rfl rfl) rfl ?_
  replace h := bind_some h; obtain ⟨y92, e93, h⟩ := h
  refine ro_hy (o_c1 (vs := [.agg #[v_aS0, v_aS1]]) HS (c_laws_toStructure (r_aS0.sub HS.sub) (r_aS1.sub HS.sub) e93) cf24 rfl) rfl ?_
  rintro _ w94 ⟨cs95, rfl, hb, HS⟩
  replace HS := st_K27 HS
  obtain ⟨v97, v99, rfl, HS⟩ := HS
  replace h := bind_some h; obtain ⟨y100, e101, h⟩ := h
  refine ro_hy (o_c1 (vs := [.agg #[v97, v99]]) HS (c_impl_Blur (HS.rd 0 rfl) (HS.rd 1 rfl) e101) cf34 rfl) rfl ?_
  rintro _ w102 ⟨cs103, rfl, hb, HS⟩
  replace HS := st_K27 HS
  obtain ⟨v105, v107, rfl, HS⟩ := HS
  refine ro_hy (o_alloc HS (cs := [.slice none 0 0, .slice none 0 0]) ze27 rfl) rfl ?_
  rintro _ w109 ⟨g108, rfl, hb, HS⟩
  refine ro_hy (o_str (off := 0) (vs := [v105, v107]) (l' := [v105, v107]) HS rfl rfl rfl st27 rfl rfl (pl (HS.rd 1 rfl).pl (pl (HS.rd 2 rfl).pl pl0)) rfl) rfl ?_
  rintro _ w111 ⟨rfl, hk, HS⟩
  refine RO.nil (nx ?_)
  refine ex_seq ?_
  refine ex_seq ?_
  refine ex_region ?_
  refine ro_lt (r_lda (HS.boxAt 0 rfl) ag27 rfl rfl) rfl ?_
  refine ro_lt (r_lda (HS.boxAt 13 rfl) ag27 rfl rfl) rfl ?_
  replace h := bind_some h; obtain ⟨y113, e114, h⟩ := h
  refine ro_hy (o_cf (vs := [.agg #[v105, v107], .agg #[v23, v25]]) HS rfl (c_laws_eqStructure (HS.rd 1 rfl) (HS.rd 2 rfl) (HS.rd 14 rfl) (HS.rd 15 rfl) e114) cf26 rfl) rfl ?_
  rintro _ w115 ⟨rfl, hb, HS⟩
  refine ro_lt (r_not rfl) rfl ?_
  refine RO.nil (nx ?_)
  replace h := ite_some h; rcases h with ⟨c116, h⟩ | ⟨c116, h⟩
  rotate_left
  · refine ex_if_t rfl (congrArg (!·) (bf c116)) ?_
    refine ex_seq ?_
    refine ex_region ?_
    refine ro_lt (r_as (v := .bool false) rfl) rfl ?_
    refine RO.nil (nx ?_)
    obtain rfl := Option.some.inj h
    refine ex_ret (tq_ret ?_)
    exact ret1 (.inr rfl) rfl rfl (P1.of_flat HS hs rfl)
  refine ex_if_f rfl (congrArg (!·) (c116)) ?_
  refine ex_skip (nx ?_)
  refine ex_seq ?_
  refine ex_region ?_
  refine ro_lt (r_as (v := iv 1) rfl) rfl ?_
  refine RO.nil (nx ?_)
  refine ex_seq ?_
  refine ex_region ?_
  refine ro_lt (r_lda (HS.boxAt 11 rfl) ag27 rfl rfl) rfl ?_
  refine ro_lt (r_mv (v := iv 1) rfl) rfl ?_
  replace h := bind_some h; obtain ⟨y117, e118, h⟩ := h
  refine ro_hy (o_cf (vs := [.agg #[v49, v51], iv 1]) HS rfl (c_laws_heldStructure (HS.rd 5 rfl) (HS.rd 6 rfl) e118) cf30 rfl) rfl ?_
  rintro _ w119 ⟨rfl, hb, HS⟩
  refine ro_lt (r_as (v := iv y117) rfl) rfl ?_
  refine RO.nil (nx ?_)
  refine ex_seq ?_
  refine ex_seq ?_
  refine ex_region ?_
  refine ro_lt (r_mv (v := iv y117) rfl) rfl ?_
  refine ro_lt (r_lss rfl rfl) rfl ?_
  refine RO.nil (nx ?_)
  replace h := ite_some h; rcases h with ⟨c120, h⟩ | ⟨c120, h⟩
  · refine ex_if_t rfl (decide_eq_true c120) ?_
    refine ex_seq ?_
    refine ex_region ?_
    refine ro_lt (r_as (v := .bool false) rfl) rfl ?_
    refine RO.nil (nx ?_)
    obtain rfl := Option.some.inj h
    refine ex_ret (tq_ret ?_)
    exact ret1 (.inr rfl) rfl rfl (P1.of_flat HS hs rfl)
  refine ex_if_f rfl (decide_eq_false c120) ?_
  refine ex_skip (nx ?_)
  refine ex_seq ?_
  refine ex_seq ?_
  refine ex_region ?_
  refine ro_lt (r_mv (v := iv y117) rfl) rfl ?_
  refine ro_lt (r_mv (v := iv y83.1) rfl) rfl ?_
  refine ro_lt (r_neq rfl rfl) rfl ?_
  refine RO.nil (nx ?_)
  replace h := ite_some h; rcases h with ⟨c121, h⟩ | ⟨c121, h⟩
  rotate_left
  · refine ex_if_t rfl (congrArg (!·) (decide_eq_false c121)) ?_
    refine ex_seq ?_
    refine ex_region ?_
    refine ro_lt (r_as (v := .bool false) rfl) rfl ?_
    refine RO.nil (nx ?_)
    obtain rfl := Option.some.inj h
    refine ex_ret (tq_ret ?_)
    exact ret1 (.inr rfl) rfl rfl (P1.of_flat HS hs rfl)
  refine ex_if_f rfl (congrArg (!·) (decide_eq_true c121)) ?_
  refine ex_skip (nx ?_)
  refine ex_seq ?_
  refine ex_region ?_
  refine ro_lt (r_as (v := .bool true) rfl) rfl ?_
  refine RO.nil (nx ?_)
  obtain rfl := Option.some.inj h
  refine ex_ret ?_
  exact ret1 (.inr rfl) rfl rfl (P1.of_flat HS hs rfl)
end Go.Proofs.Ytpfibofoeblapaa
