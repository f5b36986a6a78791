/- Walks, printed. -/
import Derived.Test.YtpfibofoeblapaaCB1
set_option linter.unusedVariables false
set_option linter.unusedSimpArgs false
namespace Go.Proofs.Ytpfibofoeblapaa
open Go Go.RowKit
set_option maxRecDepth 20000
set_option maxHeartbeats 4000000
theorem c_spec_l20Shared {w : World} {H : Hp} {FR : List Ob} {g_c : Nat} {c_vars : Int} {v_c_Nodes : Value} {n_c : Nat} {sh_c : Shp} {c_Nodes : List (List Int × List Int × Int × Int)} {v_c_Next : Value} {c_Next : List Int} {c_changed : Bool} {c_bad : Bool} (HS : St w H w (.bx g_c 91 [iv c_vars, v_c_Nodes, v_c_Next, .bool c_changed, .bool c_bad] :: .pr (NS 72 3 n_c v_c_Nodes sh_c c_Nodes) :: .ow (.sl 3 (.int .i64)) c_Next [v_c_Next] :: FR)) {r : List (List Int × List Int × Int × Int) × List Int × Bool × Bool} (h : F_spec_l20Shared c_vars n_c c_Nodes c_Next c_changed c_bad = some r) : Calls Try.prog 81 [.pointer (some ⟨g_c, 0, none⟩)].toArray w (((fun r => PS (.tuple #[]) fun w' => St w H w' (.bx g_c 91 [iv c_vars, v_c_Nodes, v_c_Next, .bool r.2.2.1, .bool r.2.2.2] :: .pr (NS 72 3 n_c v_c_Nodes sh_c r.1) :: .ow (.sl 3 (.int .i64)) r.2.1 [v_c_Next] :: FR)) : (List (List Int × List Int × Int × Int) × List Int × Bool × Bool) → Ending → World → Prop) r) := by
  unfold F_spec_l20Shared at h
  refine calls_ex (n := 149) Try.func81 rfl Try.ntmps81 (Nat.le_of_ble_eq_true rfl) ?_
  refine ex_seq ?_
  refine ex_region ?_
  refine ro_lt (r_mv (v := .pointer (some ⟨g_c, 0, none⟩)) rfl) rfl ?_
  refine ro_lt (r_nc (HS.boxAt 0 rfl) rfl) rfl ?_
  refine ro_lt (r_fa (HS.boxAt 0 rfl) fd91_1 rfl) rfl ?_
  refine ro_lt (r_fa ((HS.boxAt 0 rfl).seg 1 2) fd27_0 rfl) rfl ?_
  refine ro_lt (r_ld (((HS.boxAt 0 rfl).seg 1 2).seg 0 1) sc24 rfl) rfl ?_
  have b4 := HS.nsBig 1 rfl
  refine ro_lt (r_lenn (m := 4) HS (k := 1) rfl sl24 rfl) rfl ?_
  refine ro_lt (r_as (v := iv ((n_c : Int))) rfl) rfl ?_
  refine RO.nil (nx ?_)
  refine ex_seq ?_
  refine ex_seq ?_
  refine ex_region ?_
  refine ro_lt (r_as (v := iv 0) rfl) rfl ?_
  refine RO.nil (nx ?_)
  replace h := bind_some h; obtain ⟨y81, e82, h⟩ := h
  refine ex_lbo (fun (st : Bool × Bool × (List (List Int × List Int × Int × Int)) × (List Int) × Int) s' w' => Has s' [(0, .pointer (some ⟨g_c, 0, none⟩)), (2, iv ((n_c : Int))), (3, iv st.2.2.2.2)] ∧ St w H w' (.bx g_c 91 [iv c_vars, v_c_Nodes, v_c_Next, .bool st.1, .bool st.2.1] :: .pr (NS 72 3 n_c v_c_Nodes sh_c st.2.2.1) :: .ow (.sl 3 (.int .i64)) st.2.2.2.1 [v_c_Next] :: FR)) e82 ⟨⟨rfl, rfl, rfl, trivial⟩, HS⟩ ?_ ?_
  · rintro ⟨changed_14, bad_15, Nodes_16, Next_17, p_18⟩ c' s' w19 ⟨hs_, HS⟩ h
    rw [has_put hs_]; clear hs_
    try dsimp only at HS
    replace h : F_spec_l20Shared_b2 n_c c_vars changed_14 bad_15 Nodes_16 Next_17 p_18 = some c' := h
    unfold F_spec_l20Shared_b2 at h
    refine ex_seq ?_
    refine ex_seq ?_
    refine ex_region ?_
    refine ro_lt (r_mv (v := iv p_18) rfl) rfl ?_
    refine ro_lt (r_mv (v := iv ((n_c : Int))) rfl) rfl ?_
    refine ro_lt (r_lss rfl rfl) rfl ?_
    refine ro_lt (r_mv (v := .bool ((decide (p_18 < (n_c : Int))))) rfl) rfl ?_
    replace h := ite_some h; rcases h with ⟨c20, h⟩ | ⟨c20, h⟩
    rotate_left
    · refine ro_off (sb (decide_eq_false c20)) rfl rfl ?_
      refine ro_off (sb (decide_eq_false c20)) rfl rfl ?_
      refine ro_off (sb (decide_eq_false c20)) rfl rfl ?_
      refine ro_off (sb (decide_eq_false c20)) rfl rfl ?_
      refine ro_off (sb (decide_eq_false c20)) rfl rfl ?_
      refine ro_lt (r_pickf (v := .bool false) (decide_eq_false c20) rfl rfl) rfl ?_
      refine RO.nil (nx ?_)
      refine ex_if_f rfl (rfl) ?_
      refine ex_exit (tq_exit ?_)
      obtain rfl := Option.some.inj h
      exact lq_out ⟨⟨rfl, rfl, rfl, trivial⟩, HS⟩
    refine ro_on (sb (decide_eq_true c20)) ?_
    refine ro_lt (r_mv (v := .pointer (some ⟨g_c, 0, none⟩)) rfl) rfl ?_
    refine ro_on (sb (decide_eq_true c20)) ?_
    refine ro_lt (r_nc (HS.boxAt 0 rfl) rfl) rfl ?_
    refine ro_on (sb (decide_eq_true c20)) ?_
    refine ro_lt (r_fa (HS.boxAt 0 rfl) fd91_3 rfl) rfl ?_
    refine ro_on (sb (decide_eq_true c20)) ?_
    refine ro_lt (r_ld ((HS.boxAt 0 rfl).seg 4 1) sc4 rfl) rfl ?_
    refine ro_on (sb (decide_eq_true c20)) ?_
    refine ro_lt (r_not rfl) rfl ?_
    refine ro_lt (r_pickt (v := .bool ((!bad_15))) (decide_eq_true c20) rfl rfl) rfl ?_
    refine RO.nil (nx ?_)
    replace h := ite_some h; rcases h with ⟨c21, h⟩ | ⟨c21, h⟩
    · refine ex_if_f rfl (congrArg (!·) (c21)) ?_
      refine ex_exit (tq_exit ?_)
      obtain rfl := Option.some.inj h
      exact lq_out ⟨⟨rfl, rfl, rfl, trivial⟩, HS⟩
    refine ex_if_t rfl (congrArg (!·) (bf c21)) ?_
    refine ex_skip (nx ?_)
    refine ex_seq ?_
    refine ex_block ?_
    refine ex_seq ?_
    refine ex_region ?_
    refine ro_lt (r_as (v := iv 0) rfl) rfl ?_
    refine RO.nil (nx ?_)
    refine ex_seq ?_
    refine ex_region ?_
    refine ro_lt (r_as (v := iv 0) rfl) rfl ?_
    refine RO.nil (nx ?_)
    refine ex_seq ?_
    refine ex_seq ?_
    refine ex_region ?_
    refine ro_lt (r_as (v := iv 0) rfl) rfl ?_
    refine RO.nil (nx ?_)
    replace h := bind_some h; obtain ⟨y49, e50, h⟩ := h
    refine ex_lbo (fun (st : Int × Int × Int) s' w' => Has s' [(0, .pointer (some ⟨g_c, 0, none⟩)), (2, iv ((n_c : Int))), (3, iv p_18), (4, iv st.1), (5, iv st.2.1), (6, iv st.2.2)] ∧ St w H w' (.bx g_c 91 [iv c_vars, v_c_Nodes, v_c_Next, .bool changed_14, .bool bad_15] :: .pr (NS 72 3 n_c v_c_Nodes sh_c Nodes_16) :: .ow (.sl 3 (.int .i64)) Next_17 [v_c_Next] :: FR)) e50 ⟨⟨rfl, rfl, rfl, rfl, rfl, rfl, trivial⟩, HS⟩ ?_ ?_
    · rintro ⟨e_24, n_25, d_26⟩ c' s' w27 ⟨hs_, HS⟩ h
      rw [has_put hs_]; clear hs_
      try dsimp only at HS
      replace h : F_spec_l20Shared_b1 n_c Nodes_16 Next_17 p_18 e_24 n_25 d_26 = some c' := h
      unfold F_spec_l20Shared_b1 at h
      refine ex_seq ?_
      refine ex_seq ?_
      refine ex_region ?_
      refine ro_lt (r_mv (v := iv d_26) rfl) rfl ?_
      refine ro_lt (r_mv (v := iv ((n_c : Int))) rfl) rfl ?_
      refine ro_lt (r_lss rfl rfl) rfl ?_
      refine RO.nil (nx ?_)
      replace h := ite_some h; rcases h with ⟨c28, h⟩ | ⟨c28, h⟩
      rotate_left
      · refine ex_if_f rfl (decide_eq_false c28) ?_
        refine ex_exit (tq_exit ?_)
        obtain rfl := Option.some.inj h
        exact lq_out ⟨⟨rfl, rfl, rfl, rfl, rfl, rfl, trivial⟩, HS⟩
      refine ex_if_t rfl (decide_eq_true c28) ?_
      refine ex_skip (nx ?_)
      refine ex_seq ?_
      refine ex_block ?_
      refine ex_seq ?_
      refine ex_region ?_
      refine ro_lt (r_mv (v := .pointer (some ⟨g_c, 0, none⟩)) rfl) rfl ?_
      refine ro_lt (r_nc (HS.boxAt 0 rfl) rfl) rfl ?_
      refine ro_lt (r_fa (HS.boxAt 0 rfl) fd91_1 rfl) rfl ?_
      refine ro_lt (r_lda ((HS.boxAt 0 rfl).seg 1 2) ag27 rfl rfl) rfl ?_
      refine ro_lt (r_mv (v := iv d_26) rfl) rfl ?_
      refine ro_lt (r_mv (v := iv p_18) rfl) rfl ?_
      replace h := bind_some h; obtain ⟨y29, e30, h⟩ := h
      refine ro_hy (o_cf (vs := [.agg #[v_c_Nodes, v_c_Next], iv d_26, iv p_18]) HS rfl (c_spec_NextOf (HS.nsRd 1 rfl) (HS.rd 2 rfl) e30) cf57 rfl) rfl ?_
      rintro _ w31 ⟨rfl, hb, HS⟩
      refine ro_lt (r_as (v := iv y29) rfl) rfl ?_
      refine RO.nil (nx ?_)
      refine ex_seq ?_
      refine ex_region ?_
      refine ro_lt (r_mv (v := iv e_24) rfl) rfl ?_
      refine ro_lt (r_mv (v := iv y29) rfl) rfl ?_
      refine ro_lt (r_neq rfl rfl) rfl ?_
      replace h := bind_some h; obtain ⟨y32, e33, h⟩ := h
      refine ro_hy (o_cf (vs := [.bool ((!(decide (y29 = 0))))]) HS rfl (c_spec_l1Bit e33) cf130 rfl) rfl ?_
      rintro _ w34 ⟨rfl, hb, HS⟩
      refine ro_lt (r_addw rfl rfl) rfl ?_
      refine ro_lt (r_mv (v := iv y29) rfl) rfl ?_
      refine ro_lt (r_neq rfl rfl) rfl ?_
      refine ro_lt (r_mv (v := .bool ((!(decide (y29 = 0))))) rfl) rfl ?_
      replace h := ite_some h; rcases h with ⟨c35, h⟩ | ⟨c35, h⟩
      · refine ro_off (sb (congrArg (!·) (decide_eq_true c35))) rfl rfl ?_
        refine ro_off (sb (congrArg (!·) (decide_eq_true c35))) rfl rfl ?_
        refine ro_off (sb (congrArg (!·) (decide_eq_true c35))) rfl rfl ?_
        refine ro_off (sb (congrArg (!·) (decide_eq_true c35))) rfl rfl ?_
        refine ro_off (sb (congrArg (!·) (decide_eq_true c35))) rfl rfl ?_
        refine ro_off (sb (congrArg (!·) (decide_eq_true c35))) rfl rfl ?_
        refine ro_off (sb (congrArg (!·) (decide_eq_true c35))) rfl rfl ?_
        refine ro_off (sb (congrArg (!·) (decide_eq_true c35))) rfl rfl ?_
        refine ro_off (sb (congrArg (!·) (decide_eq_true c35))) rfl rfl ?_
        refine ro_off (sb (congrArg (!·) (decide_eq_true c35))) rfl rfl ?_
        refine ro_lt (r_pickf (v := .bool false) (congrArg (!·) (decide_eq_true c35)) rfl rfl) rfl ?_
        replace h := bind_some h; obtain ⟨y36, e37, h⟩ := h
        refine ro_hy (o_cf (vs := [.bool false]) HS rfl (c_spec_l1Bit e37) cf130 rfl) rfl ?_
        rintro _ w38 ⟨rfl, hb, HS⟩
        refine ro_lt (r_addw rfl rfl) rfl ?_
        refine ro_lt (r_as (v := iv (wi ((wi (e_24 + y32)) + y36))) rfl) rfl ?_
        refine RO.nil (nx ?_)
        refine ex_region ?_
        refine ro_lt (r_mv (v := iv n_25) rfl) rfl ?_
        refine ro_lt (r_mv (v := iv y29) rfl) rfl ?_
        refine ro_lt (r_eql rfl rfl) rfl ?_
        replace h := bind_some h; obtain ⟨y39, e40, h⟩ := h
        refine ro_hy (o_cf (vs := [.bool ((decide (y29 = 2)))]) HS rfl (c_spec_l1Bit e40) cf130 rfl) rfl ?_
        rintro _ w41 ⟨rfl, hb, HS⟩
        refine ro_lt (r_addw rfl rfl) rfl ?_
        refine ro_lt (r_as (v := iv (wi (n_25 + y39))) rfl) rfl ?_
        refine RO.nil (blk_nx (nx ?_))
        refine ex_region ?_
        refine ro_lt (r_mv (v := iv d_26) rfl) rfl ?_
        refine ro_lt (r_addw rfl rfl) rfl ?_
        refine ro_lt (r_as (v := iv (wi (d_26 + 1))) rfl) rfl ?_
        refine RO.nil ?_
        obtain rfl := Option.some.inj h
        exact lq_go ⟨⟨rfl, rfl, rfl, rfl, rfl, rfl, trivial⟩, HS⟩
      refine ro_on (sb (congrArg (!·) (decide_eq_false c35))) ?_
      refine ro_lt (r_mv (v := .pointer (some ⟨g_c, 0, none⟩)) rfl) rfl ?_
      refine ro_on (sb (congrArg (!·) (decide_eq_false c35))) ?_
      refine ro_lt (r_nc (HS.boxAt 0 rfl) rfl) rfl ?_
      refine ro_on (sb (congrArg (!·) (decide_eq_false c35))) ?_
      refine ro_lt (r_fa (HS.boxAt 0 rfl) fd91_1 rfl) rfl ?_
      refine ro_on (sb (congrArg (!·) (decide_eq_false c35))) ?_
      refine ro_lt (r_fa ((HS.boxAt 0 rfl).seg 1 2) fd27_0 rfl) rfl ?_
      refine ro_on (sb (congrArg (!·) (decide_eq_false c35))) ?_
      refine ro_lt (r_ld (((HS.boxAt 0 rfl).seg 1 2).seg 0 1) sc24 rfl) rfl ?_
      refine ro_on (sb (congrArg (!·) (decide_eq_false c35))) ?_
      refine ro_lt (r_mv (v := iv d_26) rfl) rfl ?_
      replace h := grd_some h; obtain ⟨g42, h⟩ := h
      refine ro_on (sb (congrArg (!·) (decide_eq_false c35))) ?_
      refine ro_lt (r_ian HS (k := 1) rfl sl24 g42.1 g42.2 rfl rfl) rfl ?_
      refine ro_on (sb (congrArg (!·) (decide_eq_false c35))) ?_
      refine ro_lt (r_fa (HS.nsAt 1 rfl (i := d_26.toNat) (by omega)) fd72_3 rfl) rfl ?_
      refine ro_on (sb (congrArg (!·) (decide_eq_false c35))) ?_
      refine ro_lt (r_ld (v := iv ((Nodes_16.getD d_26.toNat dN).2.2.2)) ((HS.nsAt 1 rfl (i := d_26.toNat) (by omega)).seg 3 1) sc3 rfl) rfl ?_
      refine ro_on (sb (congrArg (!·) (decide_eq_false c35))) ?_
      refine ro_lt (r_eql rfl rfl) rfl ?_
      refine ro_lt (r_pickt (v := .bool ((decide ((Nodes_16.getD d_26.toNat dN).2.2.2 = 1)))) (congrArg (!·) (decide_eq_false c35)) rfl rfl) rfl ?_
      replace h := bind_some h; obtain ⟨y43, e44, h⟩ := h
      refine ro_hy (o_cf (vs := [.bool ((decide ((Nodes_16.getD d_26.toNat dN).2.2.2 = 1)))]) HS rfl (c_spec_l1Bit e44) cf130 rfl) rfl ?_
      rintro _ w45 ⟨rfl, hb, HS⟩
      refine ro_lt (r_addw rfl rfl) rfl ?_
      refine ro_lt (r_as (v := iv (wi ((wi (e_24 + y32)) + y43))) rfl) rfl ?_
      refine RO.nil (nx ?_)
      refine ex_region ?_
      refine ro_lt (r_mv (v := iv n_25) rfl) rfl ?_
      refine ro_lt (r_mv (v := iv y29) rfl) rfl ?_
      refine ro_lt (r_eql rfl rfl) rfl ?_
      replace h := bind_some h; obtain ⟨y46, e47, h⟩ := h
      refine ro_hy (o_cf (vs := [.bool ((decide (y29 = 2)))]) HS rfl (c_spec_l1Bit e47) cf130 rfl) rfl ?_
      rintro _ w48 ⟨rfl, hb, HS⟩
      refine ro_lt (r_addw rfl rfl) rfl ?_
      refine ro_lt (r_as (v := iv (wi (n_25 + y46))) rfl) rfl ?_
      refine RO.nil (blk_nx (nx ?_))
      refine ex_region ?_
      refine ro_lt (r_mv (v := iv d_26) rfl) rfl ?_
      refine ro_lt (r_addw rfl rfl) rfl ?_
      refine ro_lt (r_as (v := iv (wi (d_26 + 1))) rfl) rfl ?_
      refine RO.nil ?_
      obtain rfl := Option.some.inj h
      exact lq_go ⟨⟨rfl, rfl, rfl, rfl, rfl, rfl, trivial⟩, HS⟩
    rintro s' w51 ⟨hs_, HS⟩
    rw [has_put hs_]; clear hs_
    refine (nx ?_)
    refine ex_seq ?_
    refine ex_seq ?_
    refine ex_region ?_
    refine ro_lt (r_mv (v := iv y49.1) rfl) rfl ?_
    refine ro_lt (r_lss rfl rfl) rfl ?_
    refine RO.nil (nx ?_)
    replace h := ite_some h; rcases h with ⟨c53, h⟩ | ⟨c53, h⟩
    rotate_left
    · refine ex_if_f rfl (decide_eq_false c53) ?_
      refine ex_skip (nx ?_)
      refine ex_seq ?_
      refine ex_region ?_
      refine ro_lt (r_mv (v := iv y49.2.1) rfl) rfl ?_
      refine ro_lt (r_gtr rfl rfl) rfl ?_
      refine ro_lt (r_mv (v := .bool ((decide (y49.2.1 > 1)))) rfl) rfl ?_
      replace h := ite_some h; rcases h with ⟨c71, h⟩ | ⟨c71, h⟩
      rotate_left
      · refine ro_off (sb (decide_eq_false c71)) rfl rfl ?_
        refine ro_off (sb (decide_eq_false c71)) rfl rfl ?_
        refine ro_off (sb (decide_eq_false c71)) rfl rfl ?_
        refine ro_off (sb (decide_eq_false c71)) rfl rfl ?_
        refine ro_off (sb (decide_eq_false c71)) rfl rfl ?_
        refine ro_off (sb (decide_eq_false c71)) rfl rfl ?_
        refine ro_off (sb (decide_eq_false c71)) rfl rfl ?_
        refine ro_off (sb (decide_eq_false c71)) rfl rfl ?_
        refine ro_off (sb (decide_eq_false c71)) rfl rfl ?_
        refine ro_off (sb (decide_eq_false c71)) rfl rfl ?_
        refine ro_lt (r_pickf (v := .bool false) (decide_eq_false c71) rfl rfl) rfl ?_
        refine RO.nil (nx ?_)
        refine ex_if_f rfl (rfl) ?_
        refine ex_skip (blk_nx (nx ?_))
        refine ex_region ?_
        refine ro_lt (r_mv (v := iv p_18) rfl) rfl ?_
        refine ro_lt (r_addw rfl rfl) rfl ?_
        refine ro_lt (r_as (v := iv (wi (p_18 + 1))) rfl) rfl ?_
        refine RO.nil ?_
        obtain rfl := Option.some.inj h
        exact lq_go ⟨⟨rfl, rfl, rfl, trivial⟩, HS⟩
      refine ro_on (sb (decide_eq_true c71)) ?_
      refine ro_lt (r_mv (v := .pointer (some ⟨g_c, 0, none⟩)) rfl) rfl ?_
      refine ro_on (sb (decide_eq_true c71)) ?_
      refine ro_lt (r_nc (HS.boxAt 0 rfl) rfl) rfl ?_
      refine ro_on (sb (decide_eq_true c71)) ?_
      refine ro_lt (r_fa (HS.boxAt 0 rfl) fd91_1 rfl) rfl ?_
      refine ro_on (sb (decide_eq_true c71)) ?_
      refine ro_lt (r_fa ((HS.boxAt 0 rfl).seg 1 2) fd27_0 rfl) rfl ?_
      refine ro_on (sb (decide_eq_true c71)) ?_
      refine ro_lt (r_ld (((HS.boxAt 0 rfl).seg 1 2).seg 0 1) sc24 rfl) rfl ?_
      refine ro_on (sb (decide_eq_true c71)) ?_
      refine ro_lt (r_mv (v := iv p_18) rfl) rfl ?_
      replace h := grd_some h; obtain ⟨g72, h⟩ := h
      refine ro_on (sb (decide_eq_true c71)) ?_
      refine ro_lt (r_ian HS (k := 1) rfl sl24 g72.1 g72.2 rfl rfl) rfl ?_
      refine ro_on (sb (decide_eq_true c71)) ?_
      refine ro_lt (r_fa (HS.nsAt 1 rfl (i := p_18.toNat) (by omega)) fd72_3 rfl) rfl ?_
      refine ro_on (sb (decide_eq_true c71)) ?_
      refine ro_lt (r_ld (v := iv ((Nodes_16.getD p_18.toNat dN).2.2.2)) ((HS.nsAt 1 rfl (i := p_18.toNat) (by omega)).seg 3 1) sc3 rfl) rfl ?_
      refine ro_on (sb (decide_eq_true c71)) ?_
      refine ro_lt (r_eql rfl rfl) rfl ?_
      refine ro_lt (r_pickt (v := .bool ((decide ((Nodes_16.getD p_18.toNat dN).2.2.2 = 0)))) (decide_eq_true c71) rfl rfl) rfl ?_
      refine RO.nil (nx ?_)
      replace h := ite_some h; rcases h with ⟨c73, h⟩ | ⟨c73, h⟩
      rotate_left
      · refine ex_if_f rfl (decide_eq_false c73) ?_
        refine ex_skip (blk_nx (nx ?_))
        refine ex_region ?_
        refine ro_lt (r_mv (v := iv p_18) rfl) rfl ?_
        refine ro_lt (r_addw rfl rfl) rfl ?_
        refine ro_lt (r_as (v := iv (wi (p_18 + 1))) rfl) rfl ?_
        refine RO.nil ?_
        obtain rfl := Option.some.inj h
        exact lq_go ⟨⟨rfl, rfl, rfl, trivial⟩, HS⟩
      refine ex_if_t rfl (decide_eq_true c73) ?_
      refine ex_dr (Mm H [15]) (Phi g_c (fun (a : Bool × Bool) => [iv c_vars, v_c_Nodes, v_c_Next, .bool a.1, .bool a.2]) v_c_Nodes n_c sh_c) [0, 1, 3, 7, 15, 0, 0, 0, 128, 384, 896, 1920, 0, 8064, 16256, 32640, 65472, 131071, 262143, 524287] [16, 19] (.op 0 (.op 1 (.op 2 (.op 3 (.op 4 (.op 5 (.op 6 (.op 7 (.op 8 (.op 9 (.op 10 (.op 11 (.op 12 (.op 13 (.op 14 (.op 15 (.op 16 (.op 17 (.op 18 (.op 19 .nil)))))))))))))))))))) mix (by kernel_rfl) (by kernel_rfl) ?_
      intro w74 hw hb; have HS := HS.ext hb; clear hw hb
      refine RT.lt rfl rfl rfl rfl (fun w' k => r_mv (v := .pointer (some ⟨g_c, 0, none⟩)) rfl) ?_
      refine RT.lt rfl rfl rfl rfl (fun w' k => r_nc (HS.boxAt 0 rfl) rfl) ?_
      refine RT.lt rfl rfl rfl rfl (fun w' k => r_fa (HS.boxAt 0 rfl) fd91_1 rfl) ?_
      refine RT.lt rfl rfl rfl rfl (fun w' k => r_fa ((HS.boxAt 0 rfl).seg 1 2) fd27_0 rfl) ?_
      refine RT.lt rfl rfl rfl rfl (fun w' k => r_ld (exGet (exSeg (exSeg (k.phi (Phi.of (f := (fun (a : Bool × Bool) => [iv c_vars, v_c_Nodes, v_c_Next, .bool a.1, .bool a.2])) (changed_14, bad_15) HS 0 1 rfl rfl)).1 1 2) 0 1) fun _ => rfl) sc24 rfl) ?_
      refine RT.lt rfl rfl rfl rfl (fun w' k => r_mv (v := iv p_18) rfl) ?_
      refine RT.lt rfl rfl rfl rfl (fun w' k => r_mv (v := .pointer (some ⟨g_c, 0, none⟩)) rfl) ?_
      refine RT.lt rfl rfl rfl rfl (fun w' k => r_mv (v := .pointer (some ⟨g_c, 0, none⟩)) rfl) ?_
      refine RT.lt rfl rfl rfl rfl (fun w' k => r_nc (HS.boxAt 0 rfl) rfl) ?_
      refine RT.lt rfl rfl rfl rfl (fun w' k => r_fa (HS.boxAt 0 rfl) fd91_1 rfl) ?_
      refine RT.lt rfl rfl rfl rfl (fun w' k => r_fa ((HS.boxAt 0 rfl).seg 1 2) fd27_0 rfl) ?_
      refine RT.lt rfl rfl rfl rfl (fun w' k => r_ld (exGet (exSeg (exSeg (k.phi (Phi.of (f := (fun (a : Bool × Bool) => [iv c_vars, v_c_Nodes, v_c_Next, .bool a.1, .bool a.2])) (changed_14, bad_15) HS 0 1 rfl rfl)).1 1 2) 0 1) fun _ => rfl) sc24 rfl) ?_
      refine RT.lt rfl rfl rfl rfl (fun w' k => r_mv (v := iv p_18) rfl) ?_
      refine RT.lt rfl rfl rfl rfl (fun w' k => r_ian HS (k := 1) rfl sl24 g72.1 g72.2 rfl rfl) ?_
      refine RT.lt rfl rfl rfl rfl (fun w' k => r_fa (HS.nsAt 1 rfl (i := p_18.toNat) (by omega)) fd72_2 rfl) ?_
      refine RT.lt rfl rfl rfl rfl (fun w' k => r_ld (v := iv ((Nodes_16.getD p_18.toNat dN).2.2.1)) (((HS.nsAt 1 rfl (i := p_18.toNat) (by omega)).seg 2 1).k0 (Sub.refl _) (k.kp.none rfl)) sc3 rfl) ?_
      replace h := bind_some h; obtain ⟨y75, e76, h⟩ := h
      refine RT.hy rfl rfl rfl rfl rfl (o_cs (vs := [.pointer (some ⟨g_c, 0, none⟩), iv ((Nodes_16.getD p_18.toNat dN).2.2.1), iv 2]) (c_spec_l20Value HS.self e76) cf125 rfl) (fun _ _ ⟨_, HS2⟩ => km_st HS (Sub.refl _) (HS.kpH HS2) (fun _ h => h) (by kernel_rfl) (fun _ => (Phi.of (f := (fun (a : Bool × Bool) => [iv c_vars, v_c_Nodes, v_c_Next, .bool a.1, .bool a.2])) (y75.2.2.2.1, y75.2.2.2.2) HS2 0 1 rfl rfl))) ?_
      rintro _ w77 ⟨rfl, HS2⟩
      replace HS := HS.from HS2
      refine RT.lt rfl rfl rfl rfl (fun w' k => r_ian HS (k := 1) rfl sl24 g72.1 g72.2 rfl rfl) ?_
      refine RT.lt rfl rfl rfl rfl (fun w' k => r_fa (HS.nsAt 1 rfl (i := p_18.toNat) (by omega)) fd72_2 rfl) ?_
      refine RT.hy rfl rfl rfl rfl rfl (o_nsf (off := 2) (q := y75.1) (x' := ((y75.2.1.getD p_18.toNat dN).1, (y75.2.1.getD p_18.toNat dN).2.1, y75.1, (y75.2.1.getD p_18.toNat dN).2.2.2)) (HS.sel (G := _ :: _ :: _ :: FR) [1] 0 rfl) g72.1 g72.2 st3 (.inl ⟨rfl, rfl⟩) rfl rfl) (fun _ _ ⟨_, hk, HS2⟩ => km_st HS (Sub.refl _) hk (fun _ h => h) (by kernel_rfl) (fun _ => (Phi.of (f := (fun (a : Bool × Bool) => [iv c_vars, v_c_Nodes, v_c_Next, .bool a.1, .bool a.2])) (y75.2.2.2.1, y75.2.2.2.2) HS2 1 0 rfl rfl))) ?_
      rintro _ w79 ⟨rfl, hk, HS⟩
      refine RT.nil (blk_nx (nx ?_))
      refine ex_region ?_
      refine ro_lt (r_mv (v := iv p_18) rfl) rfl ?_
      refine ro_lt (r_addw rfl rfl) rfl ?_
      refine ro_lt (r_as (v := iv (wi (p_18 + 1))) rfl) rfl ?_
      refine RO.nil ?_
      obtain rfl := Option.some.inj h
      exact lq_go ⟨⟨rfl, rfl, rfl, trivial⟩, (HS.sel (G := _ :: _ :: _ :: FR) [1, 0, 0] 0 rfl)⟩
    refine ex_if_t rfl (decide_eq_true c53) ?_
    refine ex_dr (Mm H [15]) (Phi g_c (fun (a : Bool × Bool) => [iv c_vars, v_c_Nodes, v_c_Next, .bool a.1, .bool a.2]) v_c_Nodes n_c sh_c) [0, 1, 3, 7, 15, 0, 0, 0, 128, 384, 896, 1920, 0, 8064, 16256, 32640, 65472, 131071, 262143, 524287] [16, 19] (.op 0 (.op 1 (.op 2 (.op 3 (.op 4 (.op 5 (.op 6 (.op 7 (.op 8 (.op 9 (.op 10 (.op 11 (.op 12 (.op 13 (.op 14 (.op 15 (.op 16 (.op 17 (.op 18 (.op 19 .nil)))))))))))))))))))) mix (by kernel_rfl) (by kernel_rfl) ?_
    intro w54 hw hb; have HS := HS.ext hb; clear hw hb
    refine RT.lt rfl rfl rfl rfl (fun w' k => r_mv (v := .pointer (some ⟨g_c, 0, none⟩)) rfl) ?_
    refine RT.lt rfl rfl rfl rfl (fun w' k => r_nc (HS.boxAt 0 rfl) rfl) ?_
    refine RT.lt rfl rfl rfl rfl (fun w' k => r_fa (HS.boxAt 0 rfl) fd91_1 rfl) ?_
    refine RT.lt rfl rfl rfl rfl (fun w' k => r_fa ((HS.boxAt 0 rfl).seg 1 2) fd27_0 rfl) ?_
    refine RT.lt rfl rfl rfl rfl (fun w' k => r_ld (exGet (exSeg (exSeg (k.phi (Phi.of (f := (fun (a : Bool × Bool) => [iv c_vars, v_c_Nodes, v_c_Next, .bool a.1, .bool a.2])) (changed_14, bad_15) HS 0 1 rfl rfl)).1 1 2) 0 1) fun _ => rfl) sc24 rfl) ?_
    refine RT.lt rfl rfl rfl rfl (fun w' k => r_mv (v := iv p_18) rfl) ?_
    refine RT.lt rfl rfl rfl rfl (fun w' k => r_mv (v := .pointer (some ⟨g_c, 0, none⟩)) rfl) ?_
    refine RT.lt rfl rfl rfl rfl (fun w' k => r_mv (v := .pointer (some ⟨g_c, 0, none⟩)) rfl) ?_
    refine RT.lt rfl rfl rfl rfl (fun w' k => r_nc (HS.boxAt 0 rfl) rfl) ?_
    refine RT.lt rfl rfl rfl rfl (fun w' k => r_fa (HS.boxAt 0 rfl) fd91_1 rfl) ?_
    refine RT.lt rfl rfl rfl rfl (fun w' k => r_fa ((HS.boxAt 0 rfl).seg 1 2) fd27_0 rfl) ?_
    refine RT.lt rfl rfl rfl rfl (fun w' k => r_ld (exGet (exSeg (exSeg (k.phi (Phi.of (f := (fun (a : Bool × Bool) => [iv c_vars, v_c_Nodes, v_c_Next, .bool a.1, .bool a.2])) (changed_14, bad_15) HS 0 1 rfl rfl)).1 1 2) 0 1) fun _ => rfl) sc24 rfl) ?_
    refine RT.lt rfl rfl rfl rfl (fun w' k => r_mv (v := iv p_18) rfl) ?_
    replace h := grd_some h; obtain ⟨g55, h⟩ := h
    refine RT.lt rfl rfl rfl rfl (fun w' k => r_ian HS (k := 1) rfl sl24 g55.1 g55.2 rfl rfl) ?_
    refine RT.lt rfl rfl rfl rfl (fun w' k => r_fa (HS.nsAt 1 rfl (i := p_18.toNat) (by omega)) fd72_2 rfl) ?_
    refine RT.lt rfl rfl rfl rfl (fun w' k => r_ld (v := iv ((Nodes_16.getD p_18.toNat dN).2.2.1)) (((HS.nsAt 1 rfl (i := p_18.toNat) (by omega)).seg 2 1).k0 (Sub.refl _) (k.kp.none rfl)) sc3 rfl) ?_
    replace h := bind_some h; obtain ⟨y56, e57, h⟩ := h
    refine RT.hy rfl rfl rfl rfl rfl (o_cs (vs := [.pointer (some ⟨g_c, 0, none⟩), iv ((Nodes_16.getD p_18.toNat dN).2.2.1), iv 0]) (c_spec_l20Value HS.self e57) cf125 rfl) (fun _ _ ⟨_, HS2⟩ => km_st HS (Sub.refl _) (HS.kpH HS2) (fun _ h => h) (by kernel_rfl) (fun _ => (Phi.of (f := (fun (a : Bool × Bool) => [iv c_vars, v_c_Nodes, v_c_Next, .bool a.1, .bool a.2])) (y56.2.2.2.1, y56.2.2.2.2) HS2 0 1 rfl rfl))) ?_
    rintro _ w58 ⟨rfl, HS2⟩
    replace HS := HS.from HS2
    refine RT.lt rfl rfl rfl rfl (fun w' k => r_ian HS (k := 1) rfl sl24 g55.1 g55.2 rfl rfl) ?_
    refine RT.lt rfl rfl rfl rfl (fun w' k => r_fa (HS.nsAt 1 rfl (i := p_18.toNat) (by omega)) fd72_2 rfl) ?_
    refine RT.hy rfl rfl rfl rfl rfl (o_nsf (off := 2) (q := y56.1) (x' := ((y56.2.1.getD p_18.toNat dN).1, (y56.2.1.getD p_18.toNat dN).2.1, y56.1, (y56.2.1.getD p_18.toNat dN).2.2.2)) (HS.sel (G := _ :: _ :: _ :: FR) [1] 0 rfl) g55.1 g55.2 st3 (.inl ⟨rfl, rfl⟩) rfl rfl) (fun _ _ ⟨_, hk, HS2⟩ => km_st HS (Sub.refl _) hk (fun _ h => h) (by kernel_rfl) (fun _ => (Phi.of (f := (fun (a : Bool × Bool) => [iv c_vars, v_c_Nodes, v_c_Next, .bool a.1, .bool a.2])) (y56.2.2.2.1, y56.2.2.2.2) HS2 1 0 rfl rfl))) ?_
    rintro _ w60 ⟨rfl, hk, HS⟩
    refine RT.nil (nx ?_)
    refine ex_seq ?_
    refine ex_region ?_
    refine ro_lt (r_mv (v := iv y49.2.1) rfl) rfl ?_
    refine ro_lt (r_gtr rfl rfl) rfl ?_
    refine ro_lt (r_mv (v := .bool ((decide (y49.2.1 > 1)))) rfl) rfl ?_
    replace h := ite_some h; rcases h with ⟨c62, h⟩ | ⟨c62, h⟩
    rotate_left
    · refine ro_off (sb (decide_eq_false c62)) rfl rfl ?_
      refine ro_off (sb (decide_eq_false c62)) rfl rfl ?_
      refine ro_off (sb (decide_eq_false c62)) rfl rfl ?_
      refine ro_off (sb (decide_eq_false c62)) rfl rfl ?_
      refine ro_off (sb (decide_eq_false c62)) rfl rfl ?_
      refine ro_off (sb (decide_eq_false c62)) rfl rfl ?_
      refine ro_off (sb (decide_eq_false c62)) rfl rfl ?_
      refine ro_off (sb (decide_eq_false c62)) rfl rfl ?_
      refine ro_off (sb (decide_eq_false c62)) rfl rfl ?_
      refine ro_off (sb (decide_eq_false c62)) rfl rfl ?_
      refine ro_lt (r_pickf (v := .bool false) (decide_eq_false c62) rfl rfl) rfl ?_
      refine RO.nil (nx ?_)
      refine ex_if_f rfl (rfl) ?_
      refine ex_skip (blk_nx (nx ?_))
      refine ex_region ?_
      refine ro_lt (r_mv (v := iv p_18) rfl) rfl ?_
      refine ro_lt (r_addw rfl rfl) rfl ?_
      refine ro_lt (r_as (v := iv (wi (p_18 + 1))) rfl) rfl ?_
      refine RO.nil ?_
      obtain rfl := Option.some.inj h
      exact lq_go ⟨⟨rfl, rfl, rfl, trivial⟩, (HS.sel (G := _ :: _ :: _ :: FR) [1, 0, 0] 0 rfl)⟩
    refine ro_on (sb (decide_eq_true c62)) ?_
    refine ro_lt (r_mv (v := .pointer (some ⟨g_c, 0, none⟩)) rfl) rfl ?_
    refine ro_on (sb (decide_eq_true c62)) ?_
    refine ro_lt (r_nc (HS.boxAt 1 rfl) rfl) rfl ?_
    refine ro_on (sb (decide_eq_true c62)) ?_
    refine ro_lt (r_fa (HS.boxAt 1 rfl) fd91_1 rfl) rfl ?_
    refine ro_on (sb (decide_eq_true c62)) ?_
    refine ro_lt (r_fa ((HS.boxAt 1 rfl).seg 1 2) fd27_0 rfl) rfl ?_
    refine ro_on (sb (decide_eq_true c62)) ?_
    refine ro_lt (r_ld (((HS.boxAt 1 rfl).seg 1 2).seg 0 1) sc24 rfl) rfl ?_
    refine ro_on (sb (decide_eq_true c62)) ?_
    refine ro_lt (r_mv (v := iv p_18) rfl) rfl ?_
    refine ro_on (sb (decide_eq_true c62)) ?_
    refine ro_lt (r_ian HS (k := 0) rfl sl24 g55.1 g55.2 rfl rfl) rfl ?_
    refine ro_on (sb (decide_eq_true c62)) ?_
    refine ro_lt (r_fa (HS.nsAt 0 rfl (i := p_18.toNat) (by omega)) fd72_3 rfl) rfl ?_
    refine ro_on (sb (decide_eq_true c62)) ?_
    refine ro_lt (r_ld (v := iv (((y56.2.1.set p_18.toNat ((y56.2.1.getD p_18.toNat dN).1, (y56.2.1.getD p_18.toNat dN).2.1, y56.1, (y56.2.1.getD p_18.toNat dN).2.2.2)).getD p_18.toNat dN).2.2.2)) ((HS.nsAt 0 rfl (i := p_18.toNat) (by omega)).seg 3 1) sc3 rfl) rfl ?_
    refine ro_on (sb (decide_eq_true c62)) ?_
    refine ro_lt (r_eql rfl rfl) rfl ?_
    refine ro_lt (r_pickt (v := .bool ((decide (((y56.2.1.set p_18.toNat ((y56.2.1.getD p_18.toNat dN).1, (y56.2.1.getD p_18.toNat dN).2.1, y56.1, (y56.2.1.getD p_18.toNat dN).2.2.2)).getD p_18.toNat dN).2.2.2 = 0)))) (decide_eq_true c62) rfl rfl) rfl ?_
    refine RO.nil (nx ?_)
    replace h := ite_some h; rcases h with ⟨c63, h⟩ | ⟨c63, h⟩
    rotate_left
    · refine ex_if_f rfl (decide_eq_false c63) ?_
      refine ex_skip (blk_nx (nx ?_))
      refine ex_region ?_
      refine ro_lt (r_mv (v := iv p_18) rfl) rfl ?_
      refine ro_lt (r_addw rfl rfl) rfl ?_
      refine ro_lt (r_as (v := iv (wi (p_18 + 1))) rfl) rfl ?_
      refine RO.nil ?_
      obtain rfl := Option.some.inj h
      exact lq_go ⟨⟨rfl, rfl, rfl, trivial⟩, (HS.sel (G := _ :: _ :: _ :: FR) [1, 0, 0] 0 rfl)⟩
    refine ex_if_t rfl (decide_eq_true c63) ?_
    refine ex_dr (Mm H [15]) (Phi g_c (fun (a : Bool × Bool) => [iv c_vars, v_c_Nodes, v_c_Next, .bool a.1, .bool a.2]) v_c_Nodes n_c sh_c) [0, 1, 3, 7, 15, 0, 0, 0, 128, 384, 896, 1920, 0, 8064, 16256, 32640, 65472, 131071, 262143, 524287] [16, 19] (.op 0 (.op 1 (.op 2 (.op 3 (.op 4 (.op 5 (.op 6 (.op 7 (.op 8 (.op 9 (.op 10 (.op 11 (.op 12 (.op 13 (.op 14 (.op 15 (.op 16 (.op 17 (.op 18 (.op 19 .nil)))))))))))))))))))) mix (by kernel_rfl) (by kernel_rfl) ?_
    intro w64 hw hb; have HS := HS.ext hb; clear hw hb
    refine RT.lt rfl rfl rfl rfl (fun w' k => r_mv (v := .pointer (some ⟨g_c, 0, none⟩)) rfl) ?_
    refine RT.lt rfl rfl rfl rfl (fun w' k => r_nc (HS.boxAt 1 rfl) rfl) ?_
    refine RT.lt rfl rfl rfl rfl (fun w' k => r_fa (HS.boxAt 1 rfl) fd91_1 rfl) ?_
    refine RT.lt rfl rfl rfl rfl (fun w' k => r_fa ((HS.boxAt 1 rfl).seg 1 2) fd27_0 rfl) ?_
    refine RT.lt rfl rfl rfl rfl (fun w' k => r_ld (exGet (exSeg (exSeg (k.phi (Phi.of (f := (fun (a : Bool × Bool) => [iv c_vars, v_c_Nodes, v_c_Next, .bool a.1, .bool a.2])) (y56.2.2.2.1, y56.2.2.2.2) HS 1 0 rfl rfl)).1 1 2) 0 1) fun _ => rfl) sc24 rfl) ?_
    refine RT.lt rfl rfl rfl rfl (fun w' k => r_mv (v := iv p_18) rfl) ?_
    refine RT.lt rfl rfl rfl rfl (fun w' k => r_mv (v := .pointer (some ⟨g_c, 0, none⟩)) rfl) ?_
    refine RT.lt rfl rfl rfl rfl (fun w' k => r_mv (v := .pointer (some ⟨g_c, 0, none⟩)) rfl) ?_
    refine RT.lt rfl rfl rfl rfl (fun w' k => r_nc (HS.boxAt 1 rfl) rfl) ?_
    refine RT.lt rfl rfl rfl rfl (fun w' k => r_fa (HS.boxAt 1 rfl) fd91_1 rfl) ?_
    refine RT.lt rfl rfl rfl rfl (fun w' k => r_fa ((HS.boxAt 1 rfl).seg 1 2) fd27_0 rfl) ?_
    refine RT.lt rfl rfl rfl rfl (fun w' k => r_ld (exGet (exSeg (exSeg (k.phi (Phi.of (f := (fun (a : Bool × Bool) => [iv c_vars, v_c_Nodes, v_c_Next, .bool a.1, .bool a.2])) (y56.2.2.2.1, y56.2.2.2.2) HS 1 0 rfl rfl)).1 1 2) 0 1) fun _ => rfl) sc24 rfl) ?_
    refine RT.lt rfl rfl rfl rfl (fun w' k => r_mv (v := iv p_18) rfl) ?_
    refine RT.lt rfl rfl rfl rfl (fun w' k => r_ian HS (k := 0) rfl sl24 g55.1 g55.2 rfl rfl) ?_
    refine RT.lt rfl rfl rfl rfl (fun w' k => r_fa (HS.nsAt 0 rfl (i := p_18.toNat) (by omega)) fd72_2 rfl) ?_
    refine RT.lt rfl rfl rfl rfl (fun w' k => r_ld (v := iv (((y56.2.1.set p_18.toNat ((y56.2.1.getD p_18.toNat dN).1, (y56.2.1.getD p_18.toNat dN).2.1, y56.1, (y56.2.1.getD p_18.toNat dN).2.2.2)).getD p_18.toNat dN).2.2.1)) (((HS.nsAt 0 rfl (i := p_18.toNat) (by omega)).seg 2 1).k0 (Sub.refl _) (k.kp.none rfl)) sc3 rfl) ?_
    replace h := bind_some h; obtain ⟨y65, e66, h⟩ := h
    refine RT.hy rfl rfl rfl rfl rfl (o_cs (vs := [.pointer (some ⟨g_c, 0, none⟩), iv (((y56.2.1.set p_18.toNat ((y56.2.1.getD p_18.toNat dN).1, (y56.2.1.getD p_18.toNat dN).2.1, y56.1, (y56.2.1.getD p_18.toNat dN).2.2.2)).getD p_18.toNat dN).2.2.1), iv 2]) (c_spec_l20Value (HS.sel (G := _ :: _ :: _ :: FR) [1, 0, 0] 0 rfl).self e66) cf125 rfl) (fun _ _ ⟨_, HS2⟩ => km_st HS (Sub.refl _) (HS.kpH HS2) (fun _ h => h) (by kernel_rfl) (fun _ => (Phi.of (f := (fun (a : Bool × Bool) => [iv c_vars, v_c_Nodes, v_c_Next, .bool a.1, .bool a.2])) (y65.2.2.2.1, y65.2.2.2.2) HS2 0 1 rfl rfl))) ?_
    rintro _ w67 ⟨rfl, HS2⟩
    replace HS := (HS.sel (G := _ :: _ :: _ :: FR) [1, 0, 0] 0 rfl).from HS2
    refine RT.lt rfl rfl rfl rfl (fun w' k => r_ian HS (k := 1) rfl sl24 g55.1 g55.2 rfl rfl) ?_
    refine RT.lt rfl rfl rfl rfl (fun w' k => r_fa (HS.nsAt 1 rfl (i := p_18.toNat) (by omega)) fd72_2 rfl) ?_
    refine RT.hy rfl rfl rfl rfl rfl (o_nsf (off := 2) (q := y65.1) (x' := ((y65.2.1.getD p_18.toNat dN).1, (y65.2.1.getD p_18.toNat dN).2.1, y65.1, (y65.2.1.getD p_18.toNat dN).2.2.2)) (HS.sel (G := _ :: _ :: _ :: FR) [1] 0 rfl) g55.1 g55.2 st3 (.inl ⟨rfl, rfl⟩) rfl rfl) (fun _ _ ⟨_, hk, HS2⟩ => km_st HS (Sub.refl _) hk (fun _ h => h) (by kernel_rfl) (fun _ => (Phi.of (f := (fun (a : Bool × Bool) => [iv c_vars, v_c_Nodes, v_c_Next, .bool a.1, .bool a.2])) (y65.2.2.2.1, y65.2.2.2.2) HS2 1 0 rfl rfl))) ?_
    rintro _ w69 ⟨rfl, hk, HS⟩
    refine RT.nil (blk_nx (nx ?_))
    refine ex_region ?_
    refine ro_lt (r_mv (v := iv p_18) rfl) rfl ?_
    refine ro_lt (r_addw rfl rfl) rfl ?_
    refine ro_lt (r_as (v := iv (wi (p_18 + 1))) rfl) rfl ?_
    refine RO.nil ?_
    obtain rfl := Option.some.inj h
    exact lq_go ⟨⟨rfl, rfl, rfl, trivial⟩, (HS.sel (G := _ :: _ :: _ :: FR) [1, 0, 0] 0 rfl)⟩
  rintro s' w83 ⟨hs_, HS⟩
  rw [has_put hs_]; clear hs_
  refine (nx ?_)
  refine ex_seq ?_
  refine ex_region ?_
  refine ro_lt (r_as (v := iv 0) rfl) rfl ?_
  refine RO.nil (nx ?_)
  replace h := bind_some h; obtain ⟨y109, e110, h⟩ := h
  refine ex_lbo (fun (st : Bool × Int) s' w' => Has s' [(0, .pointer (some ⟨g_c, 0, none⟩)), (2, iv ((n_c : Int))), (8, iv st.2)] ∧ St w H w' (.bx g_c 91 [iv c_vars, v_c_Nodes, v_c_Next, .bool y81.1, .bool st.1] :: .pr (NS 72 3 n_c v_c_Nodes sh_c y81.2.2.1) :: .ow (.sl 3 (.int .i64)) y81.2.2.2.1 [v_c_Next] :: FR)) e110 ⟨⟨rfl, rfl, rfl, trivial⟩, HS⟩ ?_ ?_
  · rintro ⟨bad_91, i92⟩ c' s' w93 ⟨hs_, HS⟩ h
    rw [has_put hs_]; clear hs_
    try dsimp only at HS
    replace h : F_spec_l20Shared_b3 n_c y81 c_vars bad_91 i92 = some c' := h
    unfold F_spec_l20Shared_b3 at h
    refine ex_seq ?_
    refine ex_seq ?_
    refine ex_region ?_
    refine ro_lt (r_mv (v := iv i92) rfl) rfl ?_
    refine ro_lt (r_mv (v := iv ((n_c : Int))) rfl) rfl ?_
    refine ro_lt (r_lss rfl rfl) rfl ?_
    refine RO.nil (nx ?_)
    replace h := ite_some h; rcases h with ⟨c94, h⟩ | ⟨c94, h⟩
    rotate_left
    · refine ex_if_f rfl (decide_eq_false c94) ?_
      refine ex_exit (tq_exit ?_)
      obtain rfl := Option.some.inj h
      exact lq_out ⟨⟨rfl, rfl, rfl, trivial⟩, HS⟩
    refine ex_if_t rfl (decide_eq_true c94) ?_
    refine ex_skip (nx ?_)
    refine ex_seq ?_
    refine ex_block ?_
    refine ex_dr (Mm H [4]) (Phi g_c (fun (a : Bool × Bool) => [iv c_vars, v_c_Nodes, v_c_Next, .bool a.1, .bool a.2]) v_c_Nodes n_c sh_c) [0, 0, 2, 6, 14, 30, 62, 126, 254, 510, 1022, 62, 4094, 8190, 16382, 32766, 65534, 62, 131134, 393278, 917566, 2097150, 4194302, 8388607, 16777215, 33554431] [15, 25] (.op 0 (.op 1 (.op 2 (.op 3 (.op 4 (.op 5 (.op 6 (.op 7 (.op 8 (.op 9 (.op 10 (.op 11 (.op 12 (.op 13 (.op 14 (.op 17 (.op 18 (.op 19 (.op 20 (.op 15 (.op 16 (.op 21 (.op 22 (.op 23 (.op 24 (.op 25 .nil)))))))))))))))))))))))))) mix (by kernel_rfl) (by kernel_rfl) ?_
    intro w95 hw hb; have HS := HS.ext hb; clear hw hb
    refine RT.lt rfl rfl rfl rfl (fun w' k => r_mv (v := .pointer (some ⟨g_c, 0, none⟩)) rfl) ?_
    refine RT.lt rfl rfl rfl rfl (fun w' k => r_mv (v := .pointer (some ⟨g_c, 0, none⟩)) rfl) ?_
    refine RT.lt rfl rfl rfl rfl (fun w' k => r_nc (HS.boxAt 0 rfl) rfl) ?_
    refine RT.lt rfl rfl rfl rfl (fun w' k => r_fa (HS.boxAt 0 rfl) fd91_3 rfl) ?_
    refine RT.lt rfl rfl rfl rfl (fun w' k => r_ld (((HS.boxAt 0 rfl).seg 4 1).k0 (Sub.refl _) (k.kp.none rfl)) sc4 rfl) ?_
    refine RT.lt rfl rfl rfl rfl (fun w' k => r_mv (v := .bool bad_91) rfl) ?_
    replace h := ite_some h; rcases h with ⟨c96, h⟩ | ⟨c96, h⟩
    · refine RT.sk rfl rfl rfl (want_off rfl (sb (c96)) rfl) ?_
      refine RT.sk rfl rfl rfl (want_off rfl (sb (c96)) rfl) ?_
      refine RT.sk rfl rfl rfl (want_off rfl (sb (c96)) rfl) ?_
      refine RT.sk rfl rfl rfl (want_off rfl (sb (c96)) rfl) ?_
      refine RT.sk rfl rfl rfl (want_off rfl (sb (c96)) rfl) ?_
      refine RT.sk rfl rfl rfl (want_off rfl (sb (c96)) rfl) ?_
      refine RT.sk rfl rfl rfl (want_off rfl (sb (c96)) rfl) ?_
      refine RT.sk rfl rfl rfl (want_off rfl (sb (c96)) rfl) ?_
      refine RT.sk rfl rfl rfl (want_off rfl (sb (c96)) rfl) ?_
      refine RT.sk rfl rfl rfl (want_off rfl (sb (c96)) rfl) ?_
      refine RT.sk rfl rfl rfl (want_off rfl (sb (c96)) rfl) ?_
      refine RT.sk rfl rfl rfl (want_off rfl (sb (c96)) rfl) ?_
      refine RT.sk rfl rfl rfl (want_off rfl (sb (c96)) rfl) ?_
      refine RT.sk rfl rfl rfl (want_off rfl (sb (c96)) rfl) ?_
      refine RT.sk rfl rfl rfl (want_off rfl (sb (c96)) rfl) ?_
      refine RT.sk rfl rfl rfl (want_off rfl (sb (c96)) rfl) ?_
      refine RT.lt rfl rfl rfl rfl (fun w' k => r_pickt (v := .bool true) (c96) rfl rfl) ?_
      refine RT.lt rfl rfl rfl rfl (fun w' k => r_nc (HS.boxAt 0 rfl) rfl) ?_
      refine RT.lt rfl rfl rfl rfl (fun w' k => r_fa (HS.boxAt 0 rfl) fd91_3 rfl) ?_
      refine RT.hy rfl rfl rfl rfl rfl (o_str (off := 4) (vs := [.bool true]) (l' := [iv c_vars, v_c_Nodes, v_c_Next, .bool y81.1, .bool true]) HS rfl rfl rfl st4 rfl rfl (pl rfl pl0) rfl) (fun _ _ ⟨_, hk, HS2⟩ => km_st HS (Sub.refl _) (hk (fun b => b = g_c) rfl) (fun b hb => hb ▸ bx_none HS) (by kernel_rfl) (fun _ => (Phi.of (f := (fun (a : Bool × Bool) => [iv c_vars, v_c_Nodes, v_c_Next, .bool a.1, .bool a.2])) (y81.1, true) HS2 0 1 rfl rfl))) ?_
      rintro _ w97 ⟨rfl, hk, HS⟩
      refine RT.nil (blk_nx (nx ?_))
      refine ex_region ?_
      refine ro_lt (r_mv (v := iv i92) rfl) rfl ?_
      refine ro_lt (r_addw rfl rfl) rfl ?_
      refine ro_lt (r_as (v := iv (wi (i92 + 1))) rfl) rfl ?_
      refine RO.nil ?_
      obtain rfl := Option.some.inj h
      exact lq_go ⟨⟨rfl, rfl, rfl, trivial⟩, HS⟩
    refine RT.lt rfl rfl rfl (want_on rfl (sb (bf c96))) (fun w' k => r_mv (v := .pointer (some ⟨g_c, 0, none⟩)) rfl) ?_
    refine RT.lt rfl rfl rfl (want_on rfl (sb (bf c96))) (fun w' k => r_nc (HS.boxAt 0 rfl) rfl) ?_
    refine RT.lt rfl rfl rfl (want_on rfl (sb (bf c96))) (fun w' k => r_fa (HS.boxAt 0 rfl) fd91_1 rfl) ?_
    refine RT.lt rfl rfl rfl (want_on rfl (sb (bf c96))) (fun w' k => r_fa ((HS.boxAt 0 rfl).seg 1 2) fd27_0 rfl) ?_
    refine RT.lt rfl rfl rfl (want_on rfl (sb (bf c96))) (fun w' k => r_ld (exGet (exSeg (exSeg (k.phi (Phi.of (f := (fun (a : Bool × Bool) => [iv c_vars, v_c_Nodes, v_c_Next, .bool a.1, .bool a.2])) (y81.1, bad_91) HS 0 1 rfl rfl)).1 1 2) 0 1) fun _ => rfl) sc24 rfl) ?_
    refine RT.lt rfl rfl rfl (want_on rfl (sb (bf c96))) (fun w' k => r_mv (v := iv i92) rfl) ?_
    replace h := grd_some h; obtain ⟨g99, h⟩ := h
    refine RT.lt rfl rfl rfl (want_on rfl (sb (bf c96))) (fun w' k => r_ian HS (k := 1) rfl sl24 g99.1 g99.2 rfl rfl) ?_
    refine RT.lt rfl rfl rfl (want_on rfl (sb (bf c96))) (fun w' k => r_fa (HS.nsAt 1 rfl (i := i92.toNat) (by omega)) fd72_1 rfl) ?_
    refine RT.lt rfl rfl rfl (want_on rfl (sb (bf c96))) (fun w' k => r_ld (v := (sh_c i92.toNat).2) (((k.phi (Phi.of (f := (fun (a : Bool × Bool) => [iv c_vars, v_c_Nodes, v_c_Next, .bool a.1, .bool a.2])) (y81.1, bad_91) HS 0 1 rfl rfl)).2 i92.toNat (by omega)).seg 1 1) sc25 rfl) ?_
    refine RT.lt rfl rfl rfl (want_on rfl (sb (bf c96))) (fun w' k => r_mv (v := .pointer (some ⟨g_c, 0, none⟩)) rfl) ?_
    refine RT.lt rfl rfl rfl (want_on rfl (sb (bf c96))) (fun w' k => r_nc (HS.boxAt 0 rfl) rfl) ?_
    refine RT.lt rfl rfl rfl (want_on rfl (sb (bf c96))) (fun w' k => r_fa (HS.boxAt 0 rfl) fd91_0 rfl) ?_
    refine RT.lt rfl rfl rfl (want_on rfl (sb (bf c96))) (fun w' k => r_ld (exGet (exSeg (k.phi (Phi.of (f := (fun (a : Bool × Bool) => [iv c_vars, v_c_Nodes, v_c_Next, .bool a.1, .bool a.2])) (y81.1, bad_91) HS 0 1 rfl rfl)).1 0 1) fun _ => rfl) sc3 rfl) ?_
    replace h := bind_some h; obtain ⟨y100, e101, h⟩ := h
    refine RT.hy rfl rfl rfl rfl (want_on rfl (sb (bf c96))) (o_c1 (vs := [(sh_c i92.toNat).2, iv 0]) HS (c_spec_Positions (HS.nsR2 1 rfl (i := i92.toNat) (by omega)) e101) cf115 rfl) (fun _ _ ⟨_, _, hb, _⟩ => km_below hb (fun h => h.below hb)) ?_
    rintro _ w102 ⟨cs103, rfl, hb, HS⟩
    obtain ⟨v105, rfl, -⟩ := (HS.rd 0 rfl).one
    have b106 := (HS.rd 0 rfl).big
    refine RT.lt rfl rfl rfl (want_on rfl (sb (bf c96))) (fun w' k => r_len (n := 1) (HS.rd 0 rfl) sl25 rfl) ?_
    refine RT.lt rfl rfl rfl (want_on rfl (sb (bf c96))) (fun w' k => r_eql rfl rfl) ?_
    refine RT.lt rfl rfl rfl rfl (fun w' k => r_pickf (v := .bool ((decide ((y100.length : Int) = c_vars)))) (bf c96) rfl rfl) ?_
    refine RT.lt rfl rfl rfl rfl (fun w' k => r_nc (HS.boxAt 1 rfl) rfl) ?_
    refine RT.lt rfl rfl rfl rfl (fun w' k => r_fa (HS.boxAt 1 rfl) fd91_3 rfl) ?_
    refine RT.hy rfl rfl rfl rfl rfl (o_str (off := 4) (vs := [.bool ((decide ((y100.length : Int) = c_vars)))]) (l' := [iv c_vars, v_c_Nodes, v_c_Next, .bool y81.1, .bool ((decide ((y100.length : Int) = c_vars)))]) (HS.sel (G := _ :: _ :: _ :: _ :: FR) [1] 0 rfl) rfl rfl rfl st4 rfl rfl (pl rfl pl0) rfl) (fun _ _ ⟨_, hk, HS2⟩ => km_st HS (Sub.refl _) (hk (fun b => b = g_c) rfl) (fun b hb => hb ▸ bx_none (HS.sel (G := _ :: _ :: _ :: _ :: FR) [1] 0 rfl)) (by kernel_rfl) (fun _ => (Phi.of (f := (fun (a : Bool × Bool) => [iv c_vars, v_c_Nodes, v_c_Next, .bool a.1, .bool a.2])) (y81.1, (decide ((y100.length : Int) = c_vars))) HS2 0 2 rfl rfl))) ?_
    rintro _ w107 ⟨rfl, hk, HS⟩
    refine RT.nil (blk_nx (nx ?_))
    refine ex_region ?_
    refine ro_lt (r_mv (v := iv i92) rfl) rfl ?_
    refine ro_lt (r_addw rfl rfl) rfl ?_
    refine ro_lt (r_as (v := iv (wi (i92 + 1))) rfl) rfl ?_
    refine RO.nil ?_
    obtain rfl := Option.some.inj h
    exact lq_go ⟨⟨rfl, rfl, rfl, trivial⟩, (HS.sel (G := _ :: _ :: _ :: FR) [0, 1, 1] 1 rfl)⟩
  rintro s' w111 ⟨hs_, HS⟩
  rw [has_put hs_]; clear hs_
  obtain rfl := Option.some.inj h
  exact ret0 (.inl rfl) rfl ⟨rfl, HS⟩
theorem c_spec_Coerce {w : World} {vars : Int} {s : (List (List Int × List Int × Int × Int)) × List Int} {v_s0 : Value} {v_s1 : Value} (r_s0 : Rd (.sl 72 (.prod (.sl 3 (.int .i64)) (.prod (.sl 3 (.int .i64)) (.prod (.int .i64) (.int .i64))))) (hp w) s.1 [v_s0]) (r_s1 : Rd (.sl 3 (.int .i64)) (hp w) s.2 [v_s1]) {r : ((List (List Int × List Int × Int × Int)) × List Int) × Bool} (h : F_spec_Coerce vars s = some r) : Calls Try.prog 27 [iv vars, .agg #[v_s0, v_s1]].toArray w (P2 (.prod (.sl 72 (.prod (.sl 3 (.int .i64)) (.prod (.sl 3 (.int .i64)) (.prod (.int .i64) (.int .i64))))) (.sl 3 (.int .i64))) .bool w r) := by
  unfold F_spec_Coerce at h
  have HS := St.init w
  have hs := Sub.refl (hp w)
  refine calls_ex (n := 55) Try.func27 rfl Try.ntmps27 (Nat.le_of_ble_eq_true rfl) ?_
  refine ex_seq ?_
  refine ex_region ?_
  refine ro_hy (o_boxz HS (cs := [v_s0, v_s1]) rfl rfl) rfl ?_
  rintro _ w2 ⟨g1, H5, rfl, q3, l4, hb, HS⟩
  replace r_s0 := r_s0.sub q3
  replace r_s1 := r_s1.sub q3
  replace hs := hs.trans q3
  refine ro_hy (o_alloc HS (cs := [.slice none 0 0, .slice none 0 0]) ze27 rfl) rfl ?_
  rintro _ w7 ⟨g6, rfl, hb, HS⟩
  refine ro_lt (r_as (v := .bool false) rfl) rfl ?_
  refine RO.nil (nx ?_)
  refine ex_seq ?_
  refine ex_seq ?_
  refine ex_region ?_
  refine ro_lt (r_mv (v := iv vars) rfl) rfl ?_
  refine ro_lt (r_lda (l4.sub HS.sub) ag27 rfl rfl) rfl ?_
  replace h := bind_some h; obtain ⟨y9, e10, h⟩ := h
  refine ro_hy (o_cf (vs := [iv vars, .agg #[v_s0, v_s1]]) HS rfl (c_spec_IsStructure (r_s0.sub HS.sub) (r_s1.sub HS.sub) e10) cf17 rfl) rfl ?_
  rintro _ w11 ⟨rfl, hb, HS⟩
  refine ro_lt (r_not rfl) rfl ?_
  refine RO.nil (nx ?_)
  replace h := ite_some h; rcases h with ⟨c12, h⟩ | ⟨c12, h⟩
  rotate_left
  · refine ex_if_t rfl (congrArg (!·) (bf c12)) ?_
    refine ex_seq ?_
    refine ex_region ?_
    refine ro_lt (r_bld (cells := [.slice none 0 0, .slice none 0 0]) bz27 rfl vp0 rfl) rfl ?_
    refine ro_hy (o_str (off := 0) (vs := [.slice none 0 0, .slice none 0 0]) (l' := [.slice none 0 0, .slice none 0 0]) HS rfl rfl rfl st27 rfl rfl (pl rfl (pl rfl pl0)) rfl) rfl ?_
    rintro _ w87 ⟨rfl, hk, HS⟩
    refine ro_lt (r_as (v := .bool false) rfl) rfl ?_
    refine RO.nil (nx ?_)
    obtain rfl := Option.some.inj h
    refine ex_ret (tq_ret ?_)
    exact ret2 (v1 := .agg #[.slice none 0 0, .slice none 0 0]) (v2 := .bool false) (.inr rfl) rfl (rv_box HS (i := 0) rfl rfl ag27 rfl) rfl (P2.of (t := (.prod (.sl 72 (.prod (.sl 3 (.int .i64)) (.prod (.sl 3 (.int .i64)) (.prod (.int .i64) (.int .i64))))) (.sl 3 (.int .i64)))) (u := .bool) (cs := [.slice none 0 0, .slice none 0 0]) (ds := [.bool false]) (r := (([], []), false)) ((((HS.add (t := .bool) (x := false) (cs := [.bool false]) rfl rfl).nil 3 (.int .i64)).nil 72 (.prod (.sl 3 (.int .i64)) (.prod (.sl 3 (.int .i64)) (.prod (.int .i64) (.int .i64))))).join) hs)
  refine ex_if_f rfl (congrArg (!·) (c12)) ?_
  refine ex_skip (nx ?_)
  refine ex_seq ?_
  refine ex_region ?_
  refine ro_lt (r_mv (v := iv vars) rfl) rfl ?_
  refine ro_lt (r_lda (l4.sub HS.sub) ag27 rfl rfl) rfl ?_
  replace h := bind_some h; obtain ⟨y13, e14, h⟩ := h
  refine ro_hy (o_c1 (vs := [.agg #[v_s0, v_s1]]) HS (c_spec_l12Copy (r_s0.sub HS.sub) (r_s1.sub HS.sub) e14) cf55 rfl) rfl ?_
  rintro _ w15 ⟨cs16, rfl, hb, HS⟩
  replace HS := st_K27 HS
  obtain ⟨v18, v20, rfl, HS⟩ := HS
  refine ro_lt (r_bld (cells := [iv vars, v18, v20, .bool true, .bool false]) bz91 rfl (vp rfl (vp rfl (vp rfl vp0))) rfl) rfl ?_
  refine ro_hy (o_box HS (cs := [iv vars, v18, v20, .bool true, .bool false]) rfl rfl) rfl ?_
  rintro _ w22 ⟨g21, rfl, hb, HS⟩
  replace HS := (HS.sel (G := [_, _, _, _]) [1] 0 rfl)
  obtain ⟨sh24, HS⟩ := HS.nsOf
  refine ro_lt (r_as (v := .pointer (some ⟨g21, 0, none⟩)) rfl) rfl ?_
  refine RO.nil (nx ?_)
  refine ex_seq ?_
  replace h := bind_some h; obtain ⟨y64, e65, h⟩ := h
  refine ex_lbo (fun (st : Bool × Bool × (List (List Int × List Int × Int × Int)) × (List Int)) s' w' => Has s' [(4, .pointer (some ⟨g6, 0, none⟩)), (5, .bool false), (6, .pointer (some ⟨g21, 0, none⟩))] ∧ St w H5 w' [.pr (NS 72 3 y13.1.length v18 sh24 st.2.2.1), .bx g21 91 [iv vars, v18, v20, .bool st.1, .bool st.2.1], .ow (.sl 3 (.int .i64)) st.2.2.2 [v20], .bx g6 27 [.slice none 0 0, .slice none 0 0]]) e65 ⟨⟨rfl, rfl, rfl, trivial⟩, HS⟩ ?_ ?_
  · rintro ⟨changed_27, bad_28, Nodes_29, Next_30⟩ c' s' w31 ⟨hs_, HS⟩ h
    rw [has_put hs_]; clear hs_
    try dsimp only at HS
    replace h : F_spec_Coerce_b1 vars y13 changed_27 bad_28 Nodes_29 Next_30 = some c' := h
    unfold F_spec_Coerce_b1 at h
    refine ex_seq ?_
    refine ex_seq ?_
    refine ex_region ?_
    refine ro_lt (r_mv (v := .pointer (some ⟨g21, 0, none⟩)) rfl) rfl ?_
    refine ro_lt (r_nc (HS.boxAt 1 rfl) rfl) rfl ?_
    refine ro_lt (r_fa (HS.boxAt 1 rfl) fd91_2 rfl) rfl ?_
    refine ro_lt (r_ld ((HS.boxAt 1 rfl).seg 3 1) sc4 rfl) rfl ?_
    refine ro_lt (r_mv (v := .bool changed_27) rfl) rfl ?_
    replace h := ite_some h; rcases h with ⟨c32, h⟩ | ⟨c32, h⟩
    rotate_left
    · refine ro_off (sb (bf c32)) rfl rfl ?_
      refine ro_off (sb (bf c32)) rfl rfl ?_
      refine ro_off (sb (bf c32)) rfl rfl ?_
      refine ro_off (sb (bf c32)) rfl rfl ?_
      refine ro_off (sb (bf c32)) rfl rfl ?_
      refine ro_lt (r_pickf (v := .bool false) (bf c32) rfl rfl) rfl ?_
      refine RO.nil (nx ?_)
      refine ex_if_f rfl (rfl) ?_
      refine ex_exit (tq_exit ?_)
      obtain rfl := Option.some.inj h
      exact lq_out ⟨⟨rfl, rfl, rfl, trivial⟩, HS⟩
    refine ro_on (sb (c32)) ?_
    refine ro_lt (r_mv (v := .pointer (some ⟨g21, 0, none⟩)) rfl) rfl ?_
    refine ro_on (sb (c32)) ?_
    refine ro_lt (r_nc (HS.boxAt 1 rfl) rfl) rfl ?_
    refine ro_on (sb (c32)) ?_
    refine ro_lt (r_fa (HS.boxAt 1 rfl) fd91_3 rfl) rfl ?_
    refine ro_on (sb (c32)) ?_
    refine ro_lt (r_ld ((HS.boxAt 1 rfl).seg 4 1) sc4 rfl) rfl ?_
    refine ro_on (sb (c32)) ?_
    refine ro_lt (r_not rfl) rfl ?_
    refine ro_lt (r_pickt (v := .bool ((!bad_28))) (c32) rfl rfl) rfl ?_
    refine RO.nil (nx ?_)
    replace h := ite_some h; rcases h with ⟨c33, h⟩ | ⟨c33, h⟩
    · refine ex_if_f rfl (congrArg (!·) (c33)) ?_
      refine ex_exit (tq_exit ?_)
      obtain rfl := Option.some.inj h
      exact lq_out ⟨⟨rfl, rfl, rfl, trivial⟩, HS⟩
    refine ex_if_t rfl (congrArg (!·) (bf c33)) ?_
    refine ex_skip (nx ?_)
    refine ex_block ?_
    refine ex_seq ?_
    refine ex_region ?_
    refine ro_lt (r_mv (v := .pointer (some ⟨g21, 0, none⟩)) rfl) rfl ?_
    refine ro_lt (r_nc (HS.boxAt 1 rfl) rfl) rfl ?_
    refine ro_lt (r_fa (HS.boxAt 1 rfl) fd91_2 rfl) rfl ?_
    refine ro_hy (o_str (off := 3) (vs := [.bool false]) (l' := [iv vars, v18, v20, .bool false, .bool bad_28]) (HS.sel (G := [_, _, _, _]) [1] 0 rfl) rfl rfl rfl st4 rfl rfl (pl rfl pl0) rfl) rfl ?_
    rintro _ w34 ⟨rfl, hk, HS⟩
    refine RO.nil (nx ?_)
    refine ex_seq ?_
    refine ex_region ?_
    refine ro_lt (r_mv (v := .pointer (some ⟨g21, 0, none⟩)) rfl) rfl ?_
    replace h := bind_some h; obtain ⟨y36, e37, h⟩ := h
    refine ro_hy (o_cs (vs := [.pointer (some ⟨g21, 0, none⟩)]) (c_spec_l20Vars HS.self e37) cf75 rfl) rfl ?_
    rintro _ w38 ⟨rfl, HS2⟩
    replace HS := HS.from HS2
    refine RO.nil (nx ?_)
    refine ex_seq ?_
    refine ex_region ?_
    refine ro_lt (r_mv (v := .pointer (some ⟨g21, 0, none⟩)) rfl) rfl ?_
    replace h := bind_some h; obtain ⟨y40, e41, h⟩ := h
    refine ro_hy (o_cs (vs := [.pointer (some ⟨g21, 0, none⟩)]) (c_spec_l20Single HS.self e41) cf76 rfl) rfl ?_
    rintro _ w42 ⟨rfl, HS2⟩
    replace HS := HS.from HS2
    refine RO.nil (nx ?_)
    refine ex_seq ?_
    refine ex_region ?_
    refine ro_lt (r_mv (v := .pointer (some ⟨g21, 0, none⟩)) rfl) rfl ?_
    replace h := bind_some h; obtain ⟨y44, e45, h⟩ := h
    refine ro_hy (o_cs (vs := [.pointer (some ⟨g21, 0, none⟩)]) (c_spec_l20Along HS.self e45) cf77 rfl) rfl ?_
    rintro _ w46 ⟨rfl, HS2⟩
    replace HS := HS.from HS2
    refine RO.nil (nx ?_)
    refine ex_seq ?_
    refine ex_region ?_
    refine ro_lt (r_mv (v := .pointer (some ⟨g21, 0, none⟩)) rfl) rfl ?_
    replace h := bind_some h; obtain ⟨y48, e49, h⟩ := h
    refine ro_hy (o_cs (vs := [.pointer (some ⟨g21, 0, none⟩)]) (c_spec_l20Acyclic HS.self e49) cf78 rfl) rfl ?_
    rintro _ w50 ⟨rfl, HS2⟩
    replace HS := HS.from HS2
    refine RO.nil (nx ?_)
    refine ex_seq ?_
    refine ex_region ?_
    refine ro_lt (r_mv (v := .pointer (some ⟨g21, 0, none⟩)) rfl) rfl ?_
    replace h := bind_some h; obtain ⟨y52, e53, h⟩ := h
    refine ro_hy (o_cs (vs := [.pointer (some ⟨g21, 0, none⟩)]) (c_spec_l20Before HS.self e53) cf79 rfl) rfl ?_
    rintro _ w54 ⟨rfl, HS2⟩
    replace HS := HS.from HS2
    refine RO.nil (nx ?_)
    refine ex_seq ?_
    refine ex_region ?_
    refine ro_lt (r_mv (v := .pointer (some ⟨g21, 0, none⟩)) rfl) rfl ?_
    replace h := bind_some h; obtain ⟨y56, e57, h⟩ := h
    refine ro_hy (o_cs (vs := [.pointer (some ⟨g21, 0, none⟩)]) (c_spec_l20Paths HS.self e57) cf80 rfl) rfl ?_
    rintro _ w58 ⟨rfl, HS2⟩
    replace HS := HS.from HS2
    refine RO.nil (nx ?_)
    refine ex_region ?_
    refine ro_lt (r_mv (v := .pointer (some ⟨g21, 0, none⟩)) rfl) rfl ?_
    replace h := bind_some h; obtain ⟨y60, e61, h⟩ := h
    refine ro_hy (o_cs (vs := [.pointer (some ⟨g21, 0, none⟩)]) (c_spec_l20Shared HS.self e61) cf81 rfl) rfl ?_
    rintro _ w62 ⟨rfl, HS2⟩
    replace HS := HS.from HS2
    refine RO.nil (blk_nx ?_)
    obtain rfl := Option.some.inj h
    exact lq_go ⟨⟨rfl, rfl, rfl, trivial⟩, (HS.sel (G := [_, _, _, _]) [1, 0, 0, 0] 0 rfl)⟩
  rintro s' w66 ⟨hs_, HS⟩
  rw [has_put hs_]; clear hs_
  refine (nx ?_)
  refine ex_seq ?_
  refine ex_seq ?_
  refine ex_region ?_
  refine ro_lt (r_mv (v := .pointer (some ⟨g21, 0, none⟩)) rfl) rfl ?_
  refine ro_lt (r_nc (HS.boxAt 1 rfl) rfl) rfl ?_
  refine ro_lt (r_fa (HS.boxAt 1 rfl) fd91_3 rfl) rfl ?_
  refine ro_lt (r_ld ((HS.boxAt 1 rfl).seg 4 1) sc4 rfl) rfl ?_
  refine RO.nil (nx ?_)
  replace h := ite_some h; rcases h with ⟨c68, h⟩ | ⟨c68, h⟩
  · refine ex_if_t rfl (c68) ?_
    refine ex_seq ?_
    refine ex_region ?_
    refine ro_lt (r_bld (cells := [.slice none 0 0, .slice none 0 0]) bz27 rfl vp0 rfl) rfl ?_
    refine ro_hy (o_str (off := 0) (vs := [.slice none 0 0, .slice none 0 0]) (l' := [.slice none 0 0, .slice none 0 0]) (HS.sel (G := [_, _, _, _]) [3] 0 rfl) rfl rfl rfl st27 rfl rfl (pl rfl (pl rfl pl0)) rfl) rfl ?_
    rintro _ w69 ⟨rfl, hk, HS⟩
    refine ro_lt (r_as (v := .bool false) rfl) rfl ?_
    refine RO.nil (nx ?_)
    obtain rfl := Option.some.inj h
    refine ex_ret (tq_ret ?_)
    exact ret2 (v1 := .agg #[.slice none 0 0, .slice none 0 0]) (v2 := .bool false) (.inr rfl) rfl (rv_box HS (i := 0) rfl rfl ag27 rfl) rfl (P2.of (t := (.prod (.sl 72 (.prod (.sl 3 (.int .i64)) (.prod (.sl 3 (.int .i64)) (.prod (.int .i64) (.int .i64))))) (.sl 3 (.int .i64)))) (u := .bool) (cs := [.slice none 0 0, .slice none 0 0]) (ds := [.bool false]) (r := (([], []), false)) ((((HS.add (t := .bool) (x := false) (cs := [.bool false]) rfl rfl).nil 3 (.int .i64)).nil 72 (.prod (.sl 3 (.int .i64)) (.prod (.sl 3 (.int .i64)) (.prod (.int .i64) (.int .i64))))).join) hs)
  refine ex_if_f rfl (bf c68) ?_
  refine ex_skip (nx ?_)
  refine ex_seq ?_
  refine ex_region ?_
  refine ro_lt (r_mv (v := .pointer (some ⟨g21, 0, none⟩)) rfl) rfl ?_
  refine ro_lt (r_nc (HS.boxAt 1 rfl) rfl) rfl ?_
  refine ro_lt (r_fa (HS.boxAt 1 rfl) fd91_1 rfl) rfl ?_
  refine ro_lt (r_lda ((HS.boxAt 1 rfl).seg 1 2) ag27 rfl rfl) rfl ?_
  replace h := bind_some h; obtain ⟨y75, e76, h⟩ := h
  refine ro_hy (o_c1 (vs := [.agg #[v18, v20]]) HS (c_spec_l12Copy (HS.nsRd 0 rfl) (HS.rd 2 rfl) e76) cf55 rfl) rfl ?_
  rintro _ w77 ⟨cs78, rfl, hb, HS⟩
  replace HS := st_K27 HS
  obtain ⟨v80, v82, rfl, HS⟩ := HS
  refine ro_hy (o_str (off := 0) (vs := [v80, v82]) (l' := [v80, v82]) (HS.sel (G := [_, _, _, _, _, _]) [5] 0 rfl) rfl rfl rfl st27 rfl rfl (pl (HS.rd 0 rfl).pl (pl (HS.rd 1 rfl).pl pl0)) rfl) rfl ?_
  rintro _ w83 ⟨rfl, hk, HS⟩
  refine ro_lt (r_as (v := .bool true) rfl) rfl ?_
  refine RO.nil (nx ?_)
  obtain rfl := Option.some.inj h
  refine ex_ret ?_
  exact ret2 (v1 := .agg #[v80, v82]) (v2 := .bool true) (.inr rfl) rfl (rv_box HS (i := 0) rfl rfl ag27 rfl) rfl (P2.of (t := (.prod (.sl 72 (.prod (.sl 3 (.int .i64)) (.prod (.sl 3 (.int .i64)) (.prod (.int .i64) (.int .i64))))) (.sl 3 (.int .i64)))) (u := .bool) (cs := [v80, v82]) (ds := [.bool true]) (r := (y75, true)) ((((HS.add (t := .bool) (x := true) (cs := [.bool true]) rfl rfl).sel (G := [_, _, _, _, _, _, _]) [3] 0 rfl).sel (G := [_, _, _, _, _, _, _]) [3] 0 rfl).join) hs)
theorem c_spec_IsSharp {w : World} {vars : Int} {s : (List (List Int × List Int × Int × Int)) × List Int} {v_s0 : Value} {v_s1 : Value} (r_s0 : Rd (.sl 72 (.prod (.sl 3 (.int .i64)) (.prod (.sl 3 (.int .i64)) (.prod (.int .i64) (.int .i64))))) (hp w) s.1 [v_s0]) (r_s1 : Rd (.sl 3 (.int .i64)) (hp w) s.2 [v_s1]) {r : Bool} (h : F_spec_IsSharp vars s = some r) : Calls Try.prog 23 [iv vars, .agg #[v_s0, v_s1]].toArray w (P1 .bool w r) := by
  unfold F_spec_IsSharp at h
  have HS := St.init w
  have hs := Sub.refl (hp w)
  refine calls_ex (n := 19) Try.func23 rfl Try.ntmps23 (Nat.le_of_ble_eq_true rfl) ?_
  refine ex_seq ?_
  refine ex_region ?_
  refine ro_hy (o_boxz HS (cs := [v_s0, v_s1]) rfl rfl) rfl ?_
  rintro _ w2 ⟨g1, H5, rfl, q3, l4, hb, HS⟩
  replace r_s0 := r_s0.sub q3
  replace r_s1 := r_s1.sub q3
  replace hs := hs.trans q3
  refine ro_lt (r_as (v := .bool false) rfl) rfl ?_
  refine RO.nil (nx ?_)
  refine ex_seq ?_
  refine ex_region ?_
  refine ro_lt (r_mv (v := iv vars) rfl) rfl ?_
  refine ro_lt (r_lda (l4.sub HS.sub) ag27 rfl rfl) rfl ?_
  replace h := bind_some h; obtain ⟨y6, e7, h⟩ := h
  refine ro_hy (o_c2 (vs := [iv vars, .agg #[v_s0, v_s1]]) HS (c_spec_Coerce (r_s0.sub HS.sub) (r_s1.sub HS.sub) e7) cf27 rfl) rfl ?_
  rintro _ w8 ⟨cs9, cs10, rfl, hb, HS⟩
  replace HS := st_K27 HS
  obtain ⟨v12, v14, rfl, HS⟩ := HS
  obtain rfl := HS.flat 2 rfl rfl
  replace HS := (HS.sel (G := [_, _]) [0, 0] 1 rfl)
  refine ro_lt (r_mv rfl) rfl ?_
  refine ro_lt (r_ext (vs := [.agg #[v12, v14], .bool y6.2]) (i := 0) rfl rfl) rfl ?_
  refine ro_lt (r_ext (vs := [.agg #[v12, v14], .bool y6.2]) (i := 1) rfl rfl) rfl ?_
  refine ro_hy (o_alloc HS (cs := [.slice none 0 0, .slice none 0 0]) ze27 rfl) rfl ?_
  rintro _ w16 ⟨g15, rfl, hb, HS⟩
  refine ro_hy (o_str (off := 0) (vs := [v12, v14]) (l' := [v12, v14]) HS rfl rfl rfl st27 rfl rfl (pl (HS.rd 1 rfl).pl (pl (HS.rd 2 rfl).pl pl0)) rfl) rfl ?_
  rintro _ w18 ⟨rfl, hk, HS⟩
  refine ro_lt (r_as (v := .bool y6.2) rfl) rfl ?_
  refine RO.nil (nx ?_)
  refine ex_seq ?_
  refine ex_region ?_
  refine ro_lt (r_mv (v := .bool y6.2) rfl) rfl ?_
  refine ro_lt (r_mv (v := .bool y6.2) rfl) rfl ?_
  replace h := ite_some h; rcases h with ⟨c20, h⟩ | ⟨c20, h⟩
  rotate_left
  · refine ro_off (sb (bf c20)) rfl rfl ?_
    refine ro_off (sb (bf c20)) rfl rfl ?_
    refine ro_off (sb (bf c20)) rfl rfl ?_
    refine ro_lt (r_pickf (v := .bool false) (bf c20) rfl rfl) rfl ?_
    refine ro_lt (r_as (v := .bool false) rfl) rfl ?_
    refine RO.nil (nx ?_)
    obtain rfl := Option.some.inj h
    refine ex_ret ?_
    exact ret1 (.inr rfl) rfl rfl (P1.of_flat HS hs rfl)
  refine ro_on (sb (c20)) ?_
  refine ro_lt (r_lda (HS.boxAt 0 rfl) ag27 rfl rfl) rfl ?_
  refine ro_on (sb (c20)) ?_
  refine ro_lt (r_lda (l4.sub HS.sub) ag27 rfl rfl) rfl ?_
  replace h := bind_some h; obtain ⟨y21, e22, h⟩ := h
  refine ro_on (sb (c20)) ?_
  refine ro_hy (o_cf (vs := [.agg #[v12, v14], .agg #[v_s0, v_s1]]) HS rfl (c_spec_EqualStructure (HS.rd 1 rfl) (HS.rd 2 rfl) (r_s0.sub HS.sub) (r_s1.sub HS.sub) e22) cf16 rfl) rfl ?_
  rintro _ w23 ⟨rfl, hb, HS⟩
  refine ro_lt (r_pickt (v := .bool y21) (c20) rfl rfl) rfl ?_
  refine ro_lt (r_as (v := .bool y21) rfl) rfl ?_
  refine RO.nil (nx ?_)
  obtain rfl := Option.some.inj h
  refine ex_ret ?_
  exact ret1 (.inr rfl) rfl rfl (P1.of_flat HS hs rfl)
theorem c_laws_toIntS {w : World} {a : List Int} {v_a : Value} (r_a : Rd (.sl 3 (.int .i64)) (hp w) a [v_a]) {r : (List Int)} (h : F_laws_toIntS a = some r) : Calls Try.prog 71 [v_a].toArray w (P1 (.sl 3 (.int .i64)) w r) := by
  unfold F_laws_toIntS at h
  have HS := St.init w
  have hs := Sub.refl (hp w)
  refine calls_ex (n := 22) Try.func71 rfl Try.ntmps71 (Nat.le_of_ble_eq_true rfl) ?_
  refine ex_seq ?_
  refine ex_region ?_
  refine ro_lt (r_as (v := .slice none 0 0) rfl) rfl ?_
  refine RO.nil (nx ?_)
  refine ex_seq ?_
  refine ex_region ?_
  refine ro_lt (r_mv (v := v_a) rfl) rfl ?_
  have b1 := (r_a.sub HS.sub).big
  refine ro_lt (r_len (n := 1) (r_a.sub HS.sub) sl25 rfl) rfl ?_
  replace h := grd_some h; obtain ⟨g2, h⟩ := h
  refine ro_hy (o_mks (t := (.int .i64)) (n := ((a.length : Int)).toNat) HS (by rw [Int.toNat_of_nonneg (by omega)]; rfl) (by rw [Int.toNat_of_nonneg (by omega)]; rfl) sl25 mz3 (by unfold lim; omega)) rfl ?_
  rintro v3 w4 ⟨hb, HS⟩
  refine ro_lt (r_as (v := v3) rfl) rfl ?_
  refine RO.nil (nx ?_)
  refine ex_seq ?_
  refine ex_seq ?_
  refine ex_region ?_
  refine ro_lt (r_as (v := iv 0) rfl) rfl ?_
  refine RO.nil (nx ?_)
  replace h := bind_some h; obtain ⟨y24, e25, h⟩ := h
  refine ex_lbo (fun (st : (List Int) × Int) s' w' => ∃ v16 : Value, Has s' [(0, v_a), (2, .slice none 0 0), (3, v16), (4, iv st.2)] ∧ St w (hp w) w' [.ow (.sl 3 (.int .i64)) st.1 [v16]]) e25 ⟨v3, ⟨rfl, rfl, rfl, rfl, trivial⟩, HS⟩ ?_ ?_
  · rintro ⟨out_14, i_17⟩ c' s' w18 ⟨v16, hs_, HS⟩ h
    rw [has_put hs_]; clear hs_
    try dsimp only at HS
    replace h : F_laws_toIntS_b1 a out_14 i_17 = some c' := h
    unfold F_laws_toIntS_b1 at h
    refine ex_seq ?_
    refine ex_seq ?_
    refine ex_region ?_
    refine ro_lt (r_mv (v := iv i_17) rfl) rfl ?_
    refine ro_lt (r_mv (v := v_a) rfl) rfl ?_
    refine ro_lt (r_len (n := 1) (r_a.sub HS.sub) sl25 rfl) rfl ?_
    refine ro_lt (r_lss rfl rfl) rfl ?_
    refine RO.nil (nx ?_)
    replace h := ite_some h; rcases h with ⟨c19, h⟩ | ⟨c19, h⟩
    rotate_left
    · refine ex_if_f rfl (decide_eq_false c19) ?_
      refine ex_exit (tq_exit ?_)
      obtain rfl := Option.some.inj h
      exact lq_out ⟨v16, ⟨rfl, rfl, rfl, rfl, trivial⟩, HS⟩
    refine ex_if_t rfl (decide_eq_true c19) ?_
    refine ex_skip (nx ?_)
    refine ex_seq ?_
    refine ex_block ?_
    refine ex_region ?_
    refine ro_lt (r_mv (v := v16) rfl) rfl ?_
    refine ro_lt (r_mv (v := iv i_17) rfl) rfl ?_
    refine ro_lt (r_mv (v := v_a) rfl) rfl ?_
    refine ro_lt (r_mv (v := iv i_17) rfl) rfl ?_
    replace h := grd_some h; obtain ⟨g20, h⟩ := h
    refine ro_lt (r_ia (r_a.sub HS.sub) sl25 g20.1 g20.2 rfl rfl) rfl ?_
    refine ro_lt (r_ld ((r_a.int g20.1 g20.2).sub HS.sub) sc3 rfl) rfl ?_
    replace h := grd_some h; obtain ⟨g21, h⟩ := h
    refine ro_lt (r_ia (HS.rd 0 rfl) sl25 g21.1 g21.2 rfl rfl) rfl ?_
    refine ro_hy (o_set (x' := a.getD i_17.toNat 0) HS rfl g21.1 g21.2 st3 rfl rfl) rfl ?_
    rintro _ w22 ⟨rfl, hk, HS⟩
    refine RO.nil (blk_nx (nx ?_))
    refine ex_region ?_
    refine ro_lt (r_mv (v := iv i_17) rfl) rfl ?_
    refine ro_lt (r_addw rfl rfl) rfl ?_
    refine ro_lt (r_as (v := iv (wi (i_17 + 1))) rfl) rfl ?_
    refine RO.nil ?_
    obtain rfl := Option.some.inj h
    exact lq_go ⟨v16, ⟨rfl, rfl, rfl, rfl, trivial⟩, HS⟩
  rintro s' w26 ⟨v16, hs_, HS⟩
  rw [has_put hs_]; clear hs_
  refine (nx ?_)
  refine ex_seq ?_
  refine ex_region ?_
  refine ro_lt (r_mv (v := v16) rfl) rfl ?_
  refine ro_lt (r_as (v := v16) rfl) rfl ?_
  refine RO.nil (nx ?_)
  obtain rfl := Option.some.inj h
  refine ex_ret ?_
  exact ret1 (.inr rfl) rfl rfl (P1.of HS hs)
theorem c_laws_toNode {w : World} {a : List Int × List Int × Int × Int} {v_a0 : Value} {v_a1 : Value} (r_a0 : Rd (.sl 3 (.int .i64)) (hp w) a.1 [v_a0]) (r_a1 : Rd (.sl 3 (.int .i64)) (hp w) a.2.1 [v_a1]) {r : (List Int × List Int × Int × Int)} (h : F_laws_toNode a = some r) : Calls Try.prog 119 [.agg #[v_a0, v_a1, iv a.2.2.1, iv a.2.2.2]].toArray w (P1 (.prod (.sl 3 (.int .i64)) (.prod (.sl 3 (.int .i64)) (.prod (.int .i64) (.int .i64)))) w r) := by
  unfold F_laws_toNode at h
  have HS := St.init w
  have hs := Sub.refl (hp w)
  refine calls_ex (n := 19) Try.func119 rfl Try.ntmps119 (Nat.le_of_ble_eq_true rfl) ?_
  refine ex_seq ?_
  refine ex_region ?_
  refine ro_hy (o_boxz HS (cs := [v_a0, v_a1, iv a.2.2.1, iv a.2.2.2]) rfl rfl) rfl ?_
  rintro _ w2 ⟨g1, H5, rfl, q3, l4, hb, HS⟩
  replace r_a0 := r_a0.sub q3
  replace r_a1 := r_a1.sub q3
  replace hs := hs.trans q3
  refine ro_hy (o_alloc HS (cs := [.slice none 0 0, .slice none 0 0, iv 0, iv 0]) ze72 rfl) rfl ?_
  rintro _ w7 ⟨g6, rfl, hb, HS⟩
  refine RO.nil (nx ?_)
  refine ex_seq ?_
  refine ex_region ?_
  refine ro_hy (o_alloc HS (cs := [.slice none 0 0, .slice none 0 0, iv 0, iv 0]) ze72 rfl) rfl ?_
  rintro _ w10 ⟨g9, rfl, hb, HS⟩
  refine RO.nil (nx ?_)
  refine ex_seq ?_
  refine ex_region ?_
  refine ro_lt (r_fa (l4.sub HS.sub) fd123_0 rfl) rfl ?_
  refine ro_lt (r_ld ((l4.seg 0 1).sub HS.sub) sc25 rfl) rfl ?_
  replace h := bind_some h; obtain ⟨y12, e13, h⟩ := h
  refine ro_hy (o_c1 (vs := [v_a0]) HS (c_laws_toIntS (r_a0.sub HS.sub) e13) cf71 rfl) rfl ?_
  rintro _ w14 ⟨cs15, rfl, hb, HS⟩
  obtain ⟨v17, rfl, -⟩ := (HS.rd 0 rfl).one
  refine ro_lt (r_fa (HS.boxAt 1 rfl) fd72_0 rfl) rfl ?_
  refine ro_hy (o_str (off := 0) (vs := [v17]) (l' := [v17, .slice none 0 0, iv 0, iv 0]) (HS.sel (G := [_, _, _]) [1] 0 rfl) rfl rfl (HS.rd 0 rfl).vc st25 rfl rfl (pl (HS.rd 0 rfl).pl pl0) rfl) rfl ?_
  rintro _ w18 ⟨rfl, hk, HS⟩
  refine RO.nil (nx ?_)
  refine ex_seq ?_
  refine ex_region ?_
  refine ro_lt (r_fa (l4.sub HS.sub) fd123_1 rfl) rfl ?_
  refine ro_lt (r_ld ((l4.seg 1 1).sub HS.sub) sc25 rfl) rfl ?_
  replace h := bind_some h; obtain ⟨y20, e21, h⟩ := h
  refine ro_hy (o_c1 (vs := [v_a1]) HS (c_laws_toIntS (r_a1.sub HS.sub) e21) cf71 rfl) rfl ?_
  rintro _ w22 ⟨cs23, rfl, hb, HS⟩
  obtain ⟨v25, rfl, -⟩ := (HS.rd 0 rfl).one
  refine ro_lt (r_fa (HS.boxAt 1 rfl) fd72_1 rfl) rfl ?_
  refine ro_hy (o_str (off := 1) (vs := [v25]) (l' := [v17, v25, iv 0, iv 0]) (HS.sel (G := [_, _, _, _]) [1] 0 rfl) rfl rfl (HS.rd 0 rfl).vc st25 rfl rfl (pl (HS.rd 0 rfl).pl pl0) rfl) rfl ?_
  rintro _ w26 ⟨rfl, hk, HS⟩
  refine RO.nil (nx ?_)
  refine ex_seq ?_
  refine ex_region ?_
  refine ro_lt (r_fa (l4.sub HS.sub) fd123_2 rfl) rfl ?_
  refine ro_lt (r_ld ((l4.seg 2 1).sub HS.sub) sc3 rfl) rfl ?_
  refine ro_lt (r_fa (HS.boxAt 0 rfl) fd72_2 rfl) rfl ?_
  refine ro_hy (o_str (off := 2) (vs := [iv a.2.2.1]) (l' := [v17, v25, iv a.2.2.1, iv 0]) HS rfl rfl rfl st3 rfl rfl (pl rfl pl0) rfl) rfl ?_
  rintro _ w28 ⟨rfl, hk, HS⟩
  refine RO.nil (nx ?_)
  refine ex_seq ?_
  refine ex_region ?_
  refine ro_lt (r_fa (l4.sub HS.sub) fd123_3 rfl) rfl ?_
  refine ro_lt (r_ld ((l4.seg 3 1).sub HS.sub) sc3 rfl) rfl ?_
  refine ro_lt (r_fa (HS.boxAt 0 rfl) fd72_3 rfl) rfl ?_
  refine ro_hy (o_str (off := 3) (vs := [iv a.2.2.2]) (l' := [v17, v25, iv a.2.2.1, iv a.2.2.2]) HS rfl rfl rfl st3 rfl rfl (pl rfl pl0) rfl) rfl ?_
  rintro _ w30 ⟨rfl, hk, HS⟩
  refine RO.nil (nx ?_)
  refine ex_seq ?_
  refine ex_region ?_
  refine ro_lt (r_lda (HS.boxAt 0 rfl) ag72 rfl rfl) rfl ?_
  refine ro_hy (o_str (off := 0) (vs := [v17, v25, iv a.2.2.1, iv a.2.2.2]) (l' := [v17, v25, iv a.2.2.1, iv a.2.2.2]) (HS.sel (G := [_, _, _, _]) [3] 0 rfl) rfl rfl rfl st72 rfl rfl (pl (HS.rd 2 rfl).pl (pl (HS.rd 1 rfl).pl (pl rfl (pl rfl pl0)))) rfl) rfl ?_
  rintro _ w32 ⟨rfl, hk, HS⟩
  refine RO.nil (nx ?_)
  obtain rfl := Option.some.inj h
  refine ex_ret ?_
  exact ret1 (.inr rfl) rfl (rv_box HS (i := 0) rfl rfl ag72 rfl) (P1.of (((((((HS.add (t := (.int .i64)) (x := a.2.2.2) rfl rfl).add (t := (.int .i64)) (x := a.2.2.1) rfl rfl).join).sel (G := [_, _, _, _, _]) [3] 0 rfl).join).sel (G := [_, _, _, _]) [3] 0 rfl).join) hs)
theorem c_laws_toNodeS {w : World} {a : List (List Int × List Int × Int × Int)} {v_a : Value} (r_a : Rd (.sl 123 (.prod (.sl 3 (.int .i64)) (.prod (.sl 3 (.int .i64)) (.prod (.int .i64) (.int .i64))))) (hp w) a [v_a]) {r : (List (List Int × List Int × Int × Int))} (h : F_laws_toNodeS a = some r) : Calls Try.prog 70 [v_a].toArray w (P1 (.sl 72 (.prod (.sl 3 (.int .i64)) (.prod (.sl 3 (.int .i64)) (.prod (.int .i64) (.int .i64))))) w r) := by
  unfold F_laws_toNodeS at h
  have HS := St.init w
  have hs := Sub.refl (hp w)
  refine calls_ex (n := 23) Try.func70 rfl Try.ntmps70 (Nat.le_of_ble_eq_true rfl) ?_
  refine ex_seq ?_
  refine ex_region ?_
  refine ro_lt (r_as (v := .slice none 0 0) rfl) rfl ?_
  refine RO.nil (nx ?_)
  refine ex_seq ?_
  refine ex_region ?_
  refine ro_lt (r_mv (v := v_a) rfl) rfl ?_
  have b1 := (r_a.sub HS.sub).big
  refine ro_lt (r_len (n := 4) (r_a.sub HS.sub) sl41 rfl) rfl ?_
  replace h := grd_some h; obtain ⟨g2, h⟩ := h
  refine ro_hy (o_mks (t := (.prod (.sl 3 (.int .i64)) (.prod (.sl 3 (.int .i64)) (.prod (.int .i64) (.int .i64))))) (n := ((a.length : Int)).toNat) HS (by rw [Int.toNat_of_nonneg (by omega)]; rfl) (by rw [Int.toNat_of_nonneg (by omega)]; rfl) sl24 mz72 (by unfold lim; omega)) rfl ?_
  rintro v3 w4 ⟨hb, HS⟩
  refine ro_lt (r_as (v := v3) rfl) rfl ?_
  refine RO.nil (nx ?_)
  refine ex_seq ?_
  refine ex_seq ?_
  refine ex_region ?_
  refine ro_lt (r_as (v := iv 0) rfl) rfl ?_
  refine RO.nil (nx ?_)
  replace h := bind_some h; obtain ⟨y49, e50, h⟩ := h
  refine ex_lbo (fun (st : (List (List Int × List Int × Int × Int)) × Int) s' w' => ∃ v16 : Value, Has s' [(0, v_a), (2, .slice none 0 0), (3, v16), (4, iv st.2)] ∧ St w (hp w) w' [.ow (.sl 72 (.prod (.sl 3 (.int .i64)) (.prod (.sl 3 (.int .i64)) (.prod (.int .i64) (.int .i64))))) st.1 [v16]]) e50 ⟨v3, ⟨rfl, rfl, rfl, rfl, trivial⟩, HS⟩ ?_ ?_
  · rintro ⟨out_14, i_17⟩ c' s' w18 ⟨v16, hs_, HS⟩ h
    rw [has_put hs_]; clear hs_
    try dsimp only at HS
    replace h : F_laws_toNodeS_b1 a out_14 i_17 = some c' := h
    unfold F_laws_toNodeS_b1 at h
    refine ex_seq ?_
    refine ex_seq ?_
    refine ex_region ?_
    refine ro_lt (r_mv (v := iv i_17) rfl) rfl ?_
    refine ro_lt (r_mv (v := v_a) rfl) rfl ?_
    refine ro_lt (r_len (n := 4) (r_a.sub HS.sub) sl41 rfl) rfl ?_
    refine ro_lt (r_lss rfl rfl) rfl ?_
    refine RO.nil (nx ?_)
    replace h := ite_some h; rcases h with ⟨c19, h⟩ | ⟨c19, h⟩
    rotate_left
    · refine ex_if_f rfl (decide_eq_false c19) ?_
      refine ex_exit (tq_exit ?_)
      obtain rfl := Option.some.inj h
      exact lq_out ⟨v16, ⟨rfl, rfl, rfl, rfl, trivial⟩, HS⟩
    refine ex_if_t rfl (decide_eq_true c19) ?_
    refine ex_skip (nx ?_)
    refine ex_seq ?_
    refine ex_block ?_
    refine ex_region ?_
    refine ro_lt (r_mv (v := v16) rfl) rfl ?_
    refine ro_lt (r_mv (v := iv i_17) rfl) rfl ?_
    refine ro_lt (r_mv (v := v_a) rfl) rfl ?_
    refine ro_lt (r_mv (v := iv i_17) rfl) rfl ?_
    replace h := grd_some h; obtain ⟨g20, h⟩ := h
    obtain ⟨_, q21, l22⟩ := r_a.idx g20.1 g20.2
    obtain ⟨v23, v25, rfl, r24, r26⟩ := rd_K123 q21
    refine ro_lt (r_ia (r_a.sub HS.sub) sl41 g20.1 g20.2 rfl rfl) rfl ?_
    refine ro_lt (r_lda (l22.sub HS.sub) ag123 rfl rfl) rfl ?_
    replace h := bind_some h; obtain ⟨y27, e28, h⟩ := h
    refine ro_hy (o_c1 (vs := [.agg #[v23, v25, iv ((((a.getD i_17.toNat (([] : List Int), ([] : List Int), 0, 0)).2).2).1), iv ((((a.getD i_17.toNat (([] : List Int), ([] : List Int), 0, 0)).2).2).2)]]) HS (c_laws_toNode (r24.sub HS.sub) (r26.sub HS.sub) e28) cf119 rfl) rfl ?_
    rintro _ w29 ⟨cs30, rfl, hb, HS⟩
    replace HS := st_K72 HS
    obtain ⟨v32, v34, rfl, HS⟩ := HS
    replace h := grd_some h; obtain ⟨g35, h⟩ := h
    obtain ⟨_, q36, l37⟩ := (HS.rd 2 rfl).idx g35.1 g35.2
    obtain ⟨v38, v40, rfl, r39, r41⟩ := rd_K72 q36
    refine ro_lt (r_ia (HS.rd 2 rfl) sl24 g35.1 g35.2 rfl rfl) rfl ?_
    refine ro_hy (o_seta (t := (.prod (.sl 3 (.int .i64)) (.prod (.sl 3 (.int .i64)) (.prod (.int .i64) (.int .i64))))) (x' := (y27.1, y27.2.1, y27.2.2.1, y27.2.2.2)) (cs := [v32, v34, iv y27.2.2.1, iv y27.2.2.2]) ((((((((HS.add (t := (.int .i64)) (x := y27.2.2.2) rfl rfl).add (t := (.int .i64)) (x := y27.2.2.1) rfl rfl).join).sel (G := [_, _, _, _]) [2] 0 rfl).join).sel (G := [_, _, _]) [1] 0 rfl).join).sel (G := [_, _]) [1] 0 rfl) g35.1 g35.2 st72 rfl rfl rfl) rfl ?_
    rintro _ w42 ⟨rfl, hk, HS⟩
    refine RO.nil (blk_nx (nx ?_))
    refine ex_region ?_
    refine ro_lt (r_mv (v := iv i_17) rfl) rfl ?_
    refine ro_lt (r_addw rfl rfl) rfl ?_
    refine ro_lt (r_as (v := iv (wi (i_17 + 1))) rfl) rfl ?_
    refine RO.nil ?_
    obtain rfl := Option.some.inj h
    exact lq_go ⟨v16, ⟨rfl, rfl, rfl, rfl, trivial⟩, HS⟩
  rintro s' w51 ⟨v16, hs_, HS⟩
  rw [has_put hs_]; clear hs_
  refine (nx ?_)
  refine ex_seq ?_
  refine ex_region ?_
  refine ro_lt (r_mv (v := v16) rfl) rfl ?_
  refine ro_lt (r_as (v := v16) rfl) rfl ?_
  refine RO.nil (nx ?_)
  obtain rfl := Option.some.inj h
  refine ex_ret ?_
  exact ret1 (.inr rfl) rfl rfl (P1.of HS hs)
theorem c_laws_toStructure {w : World} {a : (List (List Int × List Int × Int × Int)) × List Int} {v_a0 : Value} {v_a1 : Value} (r_a0 : Rd (.sl 123 (.prod (.sl 3 (.int .i64)) (.prod (.sl 3 (.int .i64)) (.prod (.int .i64) (.int .i64))))) (hp w) a.1 [v_a0]) (r_a1 : Rd (.sl 3 (.int .i64)) (hp w) a.2 [v_a1]) {r : ((List (List Int × List Int × Int × Int)) × List Int)} (h : F_laws_toStructure a = some r) : Calls Try.prog 24 [.agg #[v_a0, v_a1]].toArray w (P1 (.prod (.sl 72 (.prod (.sl 3 (.int .i64)) (.prod (.sl 3 (.int .i64)) (.prod (.int .i64) (.int .i64))))) (.sl 3 (.int .i64))) w r) := by
  unfold F_laws_toStructure at h
  have HS := St.init w
  have hs := Sub.refl (hp w)
  refine calls_ex (n := 13) Try.func24 rfl Try.ntmps24 (Nat.le_of_ble_eq_true rfl) ?_
  refine ex_seq ?_
  refine ex_region ?_
  refine ro_hy (o_boxz HS (cs := [v_a0, v_a1]) rfl rfl) rfl ?_
  rintro _ w2 ⟨g1, H5, rfl, q3, l4, hb, HS⟩
  replace r_a0 := r_a0.sub q3
  replace r_a1 := r_a1.sub q3
  replace hs := hs.trans q3
  refine ro_hy (o_alloc HS (cs := [.slice none 0 0, .slice none 0 0]) ze27 rfl) rfl ?_
  rintro _ w7 ⟨g6, rfl, hb, HS⟩
  refine RO.nil (nx ?_)
  refine ex_seq ?_
  refine ex_region ?_
  refine ro_hy (o_alloc HS (cs := [.slice none 0 0, .slice none 0 0]) ze27 rfl) rfl ?_
  rintro _ w10 ⟨g9, rfl, hb, HS⟩
  refine RO.nil (nx ?_)
  refine ex_seq ?_
  refine ex_region ?_
  refine ro_lt (r_fa (l4.sub HS.sub) fd43_0 rfl) rfl ?_
  refine ro_lt (r_ld ((l4.seg 0 1).sub HS.sub) sc41 rfl) rfl ?_
  replace h := bind_some h; obtain ⟨y12, e13, h⟩ := h
  refine ro_hy (o_c1 (vs := [v_a0]) HS (c_laws_toNodeS (r_a0.sub HS.sub) e13) cf70 rfl) rfl ?_
  rintro _ w14 ⟨cs15, rfl, hb, HS⟩
  obtain ⟨v17, rfl, -⟩ := (HS.rd 0 rfl).one
  refine ro_lt (r_fa (HS.boxAt 1 rfl) fd27_0 rfl) rfl ?_
  refine ro_hy (o_str (off := 0) (vs := [v17]) (l' := [v17, .slice none 0 0]) (HS.sel (G := [_, _, _]) [1] 0 rfl) rfl rfl (HS.rd 0 rfl).vc st24 rfl rfl (pl (HS.rd 0 rfl).pl pl0) rfl) rfl ?_
  rintro _ w18 ⟨rfl, hk, HS⟩
  refine RO.nil (nx ?_)
  refine ex_seq ?_
  refine ex_region ?_
  refine ro_lt (r_fa (l4.sub HS.sub) fd43_1 rfl) rfl ?_
  refine ro_lt (r_ld ((l4.seg 1 1).sub HS.sub) sc25 rfl) rfl ?_
  replace h := bind_some h; obtain ⟨y20, e21, h⟩ := h
  refine ro_hy (o_c1 (vs := [v_a1]) HS (c_laws_toIntS (r_a1.sub HS.sub) e21) cf71 rfl) rfl ?_
  rintro _ w22 ⟨cs23, rfl, hb, HS⟩
  obtain ⟨v25, rfl, -⟩ := (HS.rd 0 rfl).one
  refine ro_lt (r_fa (HS.boxAt 1 rfl) fd27_1 rfl) rfl ?_
  refine ro_hy (o_str (off := 1) (vs := [v25]) (l' := [v17, v25]) (HS.sel (G := [_, _, _, _]) [1] 0 rfl) rfl rfl (HS.rd 0 rfl).vc st25 rfl rfl (pl (HS.rd 0 rfl).pl pl0) rfl) rfl ?_
  rintro _ w26 ⟨rfl, hk, HS⟩
  refine RO.nil (nx ?_)
  refine ex_seq ?_
  refine ex_region ?_
  refine ro_lt (r_lda (HS.boxAt 0 rfl) ag27 rfl rfl) rfl ?_
  refine ro_hy (o_str (off := 0) (vs := [v17, v25]) (l' := [v17, v25]) (HS.sel (G := [_, _, _, _]) [3] 0 rfl) rfl rfl rfl st27 rfl rfl (pl (HS.rd 2 rfl).pl (pl (HS.rd 1 rfl).pl pl0)) rfl) rfl ?_
  rintro _ w28 ⟨rfl, hk, HS⟩
  refine RO.nil (nx ?_)
  obtain rfl := Option.some.inj h
  refine ex_ret ?_
  exact ret1 (.inr rfl) rfl (rv_box HS (i := 0) rfl rfl ag27 rfl) (P1.of (((HS.sel (G := [_, _, _, _]) [2] 0 rfl).sel (G := [_, _, _, _]) [3] 0 rfl).join) hs)
theorem c_impl_within {w : World} {n : Int} {low : Int} {high : Int} {r : Bool} (h : F_impl_within n low high = some r) : Calls Try.prog 99 [iv n, iv low, iv high].toArray w (P1 .bool w r) := by
  unfold F_impl_within at h
  have HS := St.init w
  have hs := Sub.refl (hp w)
  refine calls_ex (n := 15) Try.func99 rfl Try.ntmps99 (Nat.le_of_ble_eq_true rfl) ?_
  refine ex_seq ?_
  refine ex_region ?_
  refine ro_lt (r_as (v := .bool false) rfl) rfl ?_
  refine RO.nil (nx ?_)
  refine ex_seq ?_
  refine ex_region ?_
  refine ro_lt (r_mv (v := iv low) rfl) rfl ?_
  refine ro_lt (r_mv (v := iv n) rfl) rfl ?_
  refine ro_lt (r_leq rfl rfl) rfl ?_
  refine ro_lt (r_mv (v := .bool ((decide (low ≤ n)))) rfl) rfl ?_
  replace h := ite_some h; rcases h with ⟨c1, h⟩ | ⟨c1, h⟩
  rotate_left
  · refine ro_off (sb (decide_eq_false c1)) rfl rfl ?_
    refine ro_off (sb (decide_eq_false c1)) rfl rfl ?_
    refine ro_off (sb (decide_eq_false c1)) rfl rfl ?_
    refine ro_lt (r_pickf (v := .bool false) (decide_eq_false c1) rfl rfl) rfl ?_
    refine ro_lt (r_as (v := .bool false) rfl) rfl ?_
    refine RO.nil (nx ?_)
    obtain rfl := Option.some.inj h
    refine ex_ret ?_
    exact ret1 (.inr rfl) rfl rfl (P1.of_flat HS hs rfl)
  refine ro_on (sb (decide_eq_true c1)) ?_
  refine ro_lt (r_mv (v := iv n) rfl) rfl ?_
  refine ro_on (sb (decide_eq_true c1)) ?_
  refine ro_lt (r_mv (v := iv high) rfl) rfl ?_
  refine ro_on (sb (decide_eq_true c1)) ?_
  refine ro_lt (r_leq rfl rfl) rfl ?_
  refine ro_lt (r_pickt (v := .bool ((decide (n ≤ high)))) (decide_eq_true c1) rfl rfl) rfl ?_
  refine ro_lt (r_as (v := .bool ((decide (n ≤ high)))) rfl) rfl ?_
  refine RO.nil (nx ?_)
  obtain rfl := Option.some.inj h
  refine ex_ret ?_
  exact ret1 (.inr rfl) rfl rfl (P1.of_flat HS hs rfl)
theorem c_slices_IndexFunc_int_int {w : World} {s : List Int} {v_s : Value} {f : Int → Option Bool} {v_f : Value} (r_s : Rd (.sl 3 (.int .i64)) (hp w) s [v_s]) (k_f : Fn1 Try.prog (hp w) (.int .i64) .bool v_f f) {r : Int} (h : F_slices_IndexFunc_int_int s f = some r) : Calls Try.prog 183 [v_s, v_f].toArray w (P1 (.int .i64) w r) := by
  unfold F_slices_IndexFunc_int_int at h
  have HS := St.init w
  have hs := Sub.refl (hp w)
  refine calls_ex (n := 19) Try.func183 rfl Try.ntmps183 (Nat.le_of_ble_eq_true rfl) ?_
  refine ex_seq ?_
  refine ex_region ?_
  refine ro_lt (r_as (v := iv 0) rfl) rfl ?_
  refine RO.nil (nx ?_)
  refine ex_seq ?_
  refine ex_seq ?_
  refine ex_region ?_
  refine ro_lt (r_mv (v := v_s) rfl) rfl ?_
  have b1 := (r_s.sub HS.sub).big
  refine ro_lt (r_len (n := 1) (r_s.sub HS.sub) sl25 rfl) rfl ?_
  refine ro_lt (r_mv (v := iv 0) rfl) rfl ?_
  refine RO.nil (nx ?_)
  replace h := bind_some h; obtain ⟨y15, e16, h⟩ := h
  refine ex_lbr (fun (st : Int) s' w' => Has s' [(0, v_s), (1, v_f), (4, iv 0), (7, iv ((s.length : Int))), (8, iv st)] ∧ St w (hp w) w' []) (fun r s' w' => FQ Try.prog Try.f183 19 (P1 (.int .i64) w r) .ret s' w') e16 ⟨⟨rfl, rfl, rfl, rfl, rfl, trivial⟩, HS⟩ ?_ ?_
  · rintro i7 c' s' w8 ⟨hs_, HS⟩ h
    rw [has_put hs_]; clear hs_
    replace h : F_slices_IndexFunc_int_int_b1 s f i7 = some c' := h
    unfold F_slices_IndexFunc_int_int_b1 at h
    refine ex_seq ?_
    refine ex_region ?_
    refine ro_lt (r_lss rfl rfl) rfl ?_
    refine RO.nil (nx ?_)
    refine ex_seq ?_
    replace h := ite_some h; rcases h with ⟨c9, h⟩ | ⟨c9, h⟩
    rotate_left
    · refine ex_if_f rfl (decide_eq_false c9) ?_
      refine ex_exit (tq_exit ?_)
      obtain rfl := Option.some.inj h
      exact lq_out ⟨⟨rfl, rfl, rfl, rfl, rfl, trivial⟩, HS⟩
    refine ex_if_t rfl (decide_eq_true c9) ?_
    refine ex_skip (nx ?_)
    refine ex_seq ?_
    refine ex_block ?_
    refine ex_seq ?_
    refine ex_region ?_
    refine ro_lt (r_mv (v := iv i7) rfl) rfl ?_
    refine ro_lt (r_as (v := iv i7) rfl) rfl ?_
    refine RO.nil (nx ?_)
    refine ex_seq ?_
    refine ex_region ?_
    refine ro_lt (r_mv (v := v_f) rfl) rfl ?_
    refine ro_lt (r_mv (v := v_s) rfl) rfl ?_
    refine ro_lt (r_mv (v := iv i7) rfl) rfl ?_
    replace h := grd_some h; obtain ⟨g10, h⟩ := h
    refine ro_lt (r_ia (r_s.sub HS.sub) sl25 g10.1 g10.2 rfl rfl) rfl ?_
    refine ro_lt (r_ld ((r_s.int g10.1 g10.2).sub HS.sub) sc3 rfl) rfl ?_
    replace h := bind_some h; obtain ⟨y11, e12, h⟩ := h
    refine ro_hy (o_f1 HS rfl (k_f.sub (Sub.refl _)) rfl rfl rfl e12) rfl ?_
    rintro _ w13 ⟨rfl, hb, HS⟩
    refine RO.nil (nx ?_)
    replace h := ite_some h; rcases h with ⟨c14, h⟩ | ⟨c14, h⟩
    rotate_left
    · refine ex_if_f rfl (bf c14) ?_
      refine ex_skip (blk_nx (nx ?_))
      refine ex_region ?_
      refine ro_lt (r_addw rfl rfl) rfl ?_
      refine ro_lt (r_mv (v := iv (wi (i7 + 1))) rfl) rfl ?_
      refine RO.nil ?_
      obtain rfl := Option.some.inj h
      exact lq_go ⟨⟨rfl, rfl, rfl, rfl, rfl, trivial⟩, HS⟩
    refine ex_if_t rfl (c14) ?_
    refine ex_seq ?_
    refine ex_region ?_
    refine ro_lt (r_mv (v := iv i7) rfl) rfl ?_
    refine ro_lt (r_as (v := iv i7) rfl) rfl ?_
    refine RO.nil (nx ?_)
    obtain rfl := Option.some.inj h
    refine ex_ret (blk_ret (tq_ret (lq_ret ?_)))
    exact ret1 (.inr rfl) rfl rfl (P1.of_flat HS hs rfl)
  rcases y15 with r19 | y15
  · intro s' w' hR
    obtain rfl := Option.some.inj h
    exact (tq_ret hR)
  rintro s' w17 ⟨hs_, HS⟩
  rw [has_put hs_]; clear hs_
  refine (nx ?_)
  refine ex_seq ?_
  refine ex_region ?_
  refine ro_lt (r_as (v := iv ((-1))) rfl) rfl ?_
  refine RO.nil (nx ?_)
  obtain rfl := Option.some.inj h
  refine ex_ret ?_
  exact ret1 (.inr rfl) rfl rfl (P1.of_flat HS hs rfl)
theorem c_slices_ContainsFunc_int_int {w : World} {s : List Int} {v_s : Value} {f : Int → Option Bool} {v_f : Value} (r_s : Rd (.sl 3 (.int .i64)) (hp w) s [v_s]) (k_f : Fn1 Try.prog (hp w) (.int .i64) .bool v_f f) {r : Bool} (h : F_slices_ContainsFunc_int_int s f = some r) : Calls Try.prog 153 [v_s, v_f].toArray w (P1 .bool w r) := by
  unfold F_slices_ContainsFunc_int_int at h
  have HS := St.init w
  have hs := Sub.refl (hp w)
  refine calls_ex (n := 9) Try.func153 rfl Try.ntmps153 (Nat.le_of_ble_eq_true rfl) ?_
  refine ex_seq ?_
  refine ex_region ?_
  refine ro_lt (r_as (v := .bool false) rfl) rfl ?_
  refine RO.nil (nx ?_)
  refine ex_seq ?_
  refine ex_region ?_
  refine ro_lt (r_mv (v := v_s) rfl) rfl ?_
  refine ro_lt (r_mv (v := v_f) rfl) rfl ?_
  replace h := bind_some h; obtain ⟨y1, e2, h⟩ := h
  refine ro_hy (o_cf (vs := [v_s, v_f]) HS rfl (c_slices_IndexFunc_int_int (r_s.sub HS.sub) (k_f.sub HS.sub) e2) cf183 rfl) rfl ?_
  rintro _ w3 ⟨rfl, hb, HS⟩
  refine ro_lt (r_geq rfl rfl) rfl ?_
  refine ro_lt (r_as (v := .bool ((decide (y1 ≥ 0)))) rfl) rfl ?_
  refine RO.nil (nx ?_)
  obtain rfl := Option.some.inj h
  refine ex_ret ?_
  exact ret1 (.inr rfl) rfl rfl (P1.of_flat HS hs rfl)
theorem c_impl_IsTruth {w : World} {a : Int} {r : Bool} (h : F_impl_IsTruth a = some r) : Calls Try.prog 103 [iv a].toArray w (P1 .bool w r) := by
  unfold F_impl_IsTruth at h
  have HS := St.init w
  have hs := Sub.refl (hp w)
  refine calls_ex (n := 5) Try.func103 rfl Try.ntmps103 (Nat.le_of_ble_eq_true rfl) ?_
  refine ex_seq ?_
  refine ex_region ?_
  refine ro_lt (r_as (v := .bool false) rfl) rfl ?_
  refine RO.nil (nx ?_)
  refine ex_seq ?_
  refine ex_region ?_
  refine ro_lt (r_mv (v := iv a) rfl) rfl ?_
  replace h := bind_some h; obtain ⟨y1, e2, h⟩ := h
  refine ro_hy (o_cf (vs := [iv a, iv 0, iv 2]) HS rfl (c_impl_within e2) cf99 rfl) rfl ?_
  rintro _ w3 ⟨rfl, hb, HS⟩
  refine ro_lt (r_as (v := .bool y1) rfl) rfl ?_
  refine RO.nil (nx ?_)
  obtain rfl := Option.some.inj h
  refine ex_ret ?_
  exact ret1 (.inr rfl) rfl rfl (P1.of_flat HS hs rfl)
theorem c_impl_areTruths_1 {w : World} {a : Int} {r : Bool} (h : F_impl_areTruths_1 a = some r) : Calls Try.prog 154 [iv a].toArray w (P1 .bool w r) := by
  unfold F_impl_areTruths_1 at h
  have HS := St.init w
  have hs := Sub.refl (hp w)
  refine calls_ex (n := 6) Try.func154 rfl Try.ntmps154 (Nat.le_of_ble_eq_true rfl) ?_
  refine ex_seq ?_
  refine ex_region ?_
  refine ro_lt (r_as (v := .bool false) rfl) rfl ?_
  refine RO.nil (nx ?_)
  refine ex_seq ?_
  refine ex_region ?_
  refine ro_lt (r_mv (v := iv a) rfl) rfl ?_
  replace h := bind_some h; obtain ⟨y1, e2, h⟩ := h
  refine ro_hy (o_cf (vs := [iv a]) HS rfl (c_impl_IsTruth e2) cf103 rfl) rfl ?_
  rintro _ w3 ⟨rfl, hb, HS⟩
  refine ro_lt (r_not rfl) rfl ?_
  refine ro_lt (r_as (v := .bool ((!y1))) rfl) rfl ?_
  refine RO.nil (nx ?_)
  obtain rfl := Option.some.inj h
  refine ex_ret ?_
  exact ret1 (.inr rfl) rfl rfl (P1.of_flat HS hs rfl)
theorem c_impl_areTruths {w : World} {list : List Int} {v_list : Value} (r_list : Rd (.sl 3 (.int .i64)) (hp w) list [v_list]) {r : Bool} (h : F_impl_areTruths list = some r) : Calls Try.prog 100 [v_list].toArray w (P1 .bool w r) := by
  unfold F_impl_areTruths at h
  have HS := St.init w
  have hs := Sub.refl (hp w)
  refine calls_ex (n := 6) Try.func100 rfl Try.ntmps100 (Nat.le_of_ble_eq_true rfl) ?_
  refine ex_seq ?_
  refine ex_region ?_
  refine ro_lt (r_as (v := .bool false) rfl) rfl ?_
  refine RO.nil (nx ?_)
  refine ex_seq ?_
  refine ex_region ?_
  refine ro_lt (r_mv (v := v_list) rfl) rfl ?_
  replace h := bind_some h; obtain ⟨y4, e5, h⟩ := h
  refine ro_hy (o_cf (vs := [v_list, .func (.func 154) #[] #[]]) HS rfl (c_slices_ContainsFunc_int_int (r_list.sub HS.sub) ⟨154, [], [], rfl, cf154, by intro w' x1 c2 r' hs' r3 hx; obtain rfl := r3; exact c_impl_areTruths_1  hx⟩ e5) cf153 rfl) rfl ?_
  rintro _ w6 ⟨rfl, hb, HS⟩
  refine ro_lt (r_not rfl) rfl ?_
  refine ro_lt (r_as (v := .bool ((!y4))) rfl) rfl ?_
  refine RO.nil (nx ?_)
  obtain rfl := Option.some.inj h
  refine ex_ret ?_
  exact ret1 (.inr rfl) rfl rfl (P1.of_flat HS hs rfl)
theorem c_slices_IndexFunc_Node_Node {w : World} {s : List (List Int × List Int × Int × Int)} {v_s : Value} {f : (List Int × List Int × Int × Int) → Option Bool} {v_f : Value} (r_s : Rd (.sl 72 (.prod (.sl 3 (.int .i64)) (.prod (.sl 3 (.int .i64)) (.prod (.int .i64) (.int .i64))))) (hp w) s [v_s]) (k_f : Fn1 Try.prog (hp w) (.prod (.sl 3 (.int .i64)) (.prod (.sl 3 (.int .i64)) (.prod (.int .i64) (.int .i64)))) .bool v_f f) {r : Int} (h : F_slices_IndexFunc_Node_Node s f = some r) : Calls Try.prog 97 [v_s, v_f].toArray w (P1 (.int .i64) w r) := by
  unfold F_slices_IndexFunc_Node_Node at h
  have HS := St.init w
  have hs := Sub.refl (hp w)
  refine calls_ex (n := 19) Try.func97 rfl Try.ntmps97 (Nat.le_of_ble_eq_true rfl) ?_
  refine ex_seq ?_
  refine ex_region ?_
  refine ro_lt (r_as (v := iv 0) rfl) rfl ?_
  refine RO.nil (nx ?_)
  refine ex_seq ?_
  refine ex_seq ?_
  refine ex_region ?_
  refine ro_lt (r_mv (v := v_s) rfl) rfl ?_
  have b1 := (r_s.sub HS.sub).big
  refine ro_lt (r_len (n := 4) (r_s.sub HS.sub) sl24 rfl) rfl ?_
  refine ro_lt (r_mv (v := iv 0) rfl) rfl ?_
  refine RO.nil (nx ?_)
  replace h := bind_some h; obtain ⟨y21, e22, h⟩ := h
  refine ex_lbr (fun (st : Int) s' w' => Has s' [(0, v_s), (1, v_f), (4, iv 0), (7, iv ((s.length : Int))), (8, iv st)] ∧ St w (hp w) w' []) (fun r s' w' => FQ Try.prog Try.f97 19 (P1 (.int .i64) w r) .ret s' w') e22 ⟨⟨rfl, rfl, rfl, rfl, rfl, trivial⟩, HS⟩ ?_ ?_
  · rintro i7 c' s' w8 ⟨hs_, HS⟩ h
    rw [has_put hs_]; clear hs_
    replace h : F_slices_IndexFunc_Node_Node_b1 s f i7 = some c' := h
    unfold F_slices_IndexFunc_Node_Node_b1 at h
    refine ex_seq ?_
    refine ex_region ?_
    refine ro_lt (r_lss rfl rfl) rfl ?_
    refine RO.nil (nx ?_)
    refine ex_seq ?_
    replace h := ite_some h; rcases h with ⟨c9, h⟩ | ⟨c9, h⟩
    rotate_left
    · refine ex_if_f rfl (decide_eq_false c9) ?_
      refine ex_exit (tq_exit ?_)
      obtain rfl := Option.some.inj h
      exact lq_out ⟨⟨rfl, rfl, rfl, rfl, rfl, trivial⟩, HS⟩
    refine ex_if_t rfl (decide_eq_true c9) ?_
    refine ex_skip (nx ?_)
    refine ex_seq ?_
    refine ex_block ?_
    refine ex_seq ?_
    refine ex_region ?_
    refine ro_lt (r_mv (v := iv i7) rfl) rfl ?_
    refine ro_lt (r_as (v := iv i7) rfl) rfl ?_
    refine RO.nil (nx ?_)
    refine ex_seq ?_
    refine ex_region ?_
    refine ro_lt (r_mv (v := v_f) rfl) rfl ?_
    refine ro_lt (r_mv (v := v_s) rfl) rfl ?_
    refine ro_lt (r_mv (v := iv i7) rfl) rfl ?_
    replace h := grd_some h; obtain ⟨g10, h⟩ := h
    obtain ⟨_, q11, l12⟩ := r_s.idx g10.1 g10.2
    obtain ⟨v13, v15, rfl, r14, r16⟩ := rd_K72 q11
    refine ro_lt (r_ia (r_s.sub HS.sub) sl24 g10.1 g10.2 rfl rfl) rfl ?_
    refine ro_lt (r_lda (l12.sub HS.sub) ag72 rfl rfl) rfl ?_
    replace h := bind_some h; obtain ⟨y17, e18, h⟩ := h
    refine ro_hy (o_f1 HS rfl (k_f.sub (Sub.refl _)) rfl rfl (mk_K72 (r14.sub HS.sub) (r16.sub HS.sub)) e18) rfl ?_
    rintro _ w19 ⟨rfl, hb, HS⟩
    refine RO.nil (nx ?_)
    replace h := ite_some h; rcases h with ⟨c20, h⟩ | ⟨c20, h⟩
    rotate_left
    · refine ex_if_f rfl (bf c20) ?_
      refine ex_skip (blk_nx (nx ?_))
      refine ex_region ?_
      refine ro_lt (r_addw rfl rfl) rfl ?_
      refine ro_lt (r_mv (v := iv (wi (i7 + 1))) rfl) rfl ?_
      refine RO.nil ?_
      obtain rfl := Option.some.inj h
      exact lq_go ⟨⟨rfl, rfl, rfl, rfl, rfl, trivial⟩, HS⟩
    refine ex_if_t rfl (c20) ?_
    refine ex_seq ?_
    refine ex_region ?_
    refine ro_lt (r_mv (v := iv i7) rfl) rfl ?_
    refine ro_lt (r_as (v := iv i7) rfl) rfl ?_
    refine RO.nil (nx ?_)
    obtain rfl := Option.some.inj h
    refine ex_ret (blk_ret (tq_ret (lq_ret ?_)))
    exact ret1 (.inr rfl) rfl rfl (P1.of_flat HS hs rfl)
  rcases y21 with r25 | y21
  · intro s' w' hR
    obtain rfl := Option.some.inj h
    exact (tq_ret hR)
  rintro s' w23 ⟨hs_, HS⟩
  rw [has_put hs_]; clear hs_
  refine (nx ?_)
  refine ex_seq ?_
  refine ex_region ?_
  refine ro_lt (r_as (v := iv ((-1))) rfl) rfl ?_
  refine RO.nil (nx ?_)
  obtain rfl := Option.some.inj h
  refine ex_ret ?_
  exact ret1 (.inr rfl) rfl rfl (P1.of_flat HS hs rfl)
theorem c_slices_ContainsFunc_Node_Node {w : World} {s : List (List Int × List Int × Int × Int)} {v_s : Value} {f : (List Int × List Int × Int × Int) → Option Bool} {v_f : Value} (r_s : Rd (.sl 72 (.prod (.sl 3 (.int .i64)) (.prod (.sl 3 (.int .i64)) (.prod (.int .i64) (.int .i64))))) (hp w) s [v_s]) (k_f : Fn1 Try.prog (hp w) (.prod (.sl 3 (.int .i64)) (.prod (.sl 3 (.int .i64)) (.prod (.int .i64) (.int .i64)))) .bool v_f f) {r : Bool} (h : F_slices_ContainsFunc_Node_Node s f = some r) : Calls Try.prog 101 [v_s, v_f].toArray w (P1 .bool w r) := by
  unfold F_slices_ContainsFunc_Node_Node at h
  have HS := St.init w
  have hs := Sub.refl (hp w)
  refine calls_ex (n := 9) Try.func101 rfl Try.ntmps101 (Nat.le_of_ble_eq_true rfl) ?_
  refine ex_seq ?_
  refine ex_region ?_
  refine ro_lt (r_as (v := .bool false) rfl) rfl ?_
  refine RO.nil (nx ?_)
  refine ex_seq ?_
  refine ex_region ?_
  refine ro_lt (r_mv (v := v_s) rfl) rfl ?_
  refine ro_lt (r_mv (v := v_f) rfl) rfl ?_
  replace h := bind_some h; obtain ⟨y1, e2, h⟩ := h
  refine ro_hy (o_cf (vs := [v_s, v_f]) HS rfl (c_slices_IndexFunc_Node_Node (r_s.sub HS.sub) (k_f.sub HS.sub) e2) cf97 rfl) rfl ?_
  rintro _ w3 ⟨rfl, hb, HS⟩
  refine ro_lt (r_geq rfl rfl) rfl ?_
  refine ro_lt (r_as (v := .bool ((decide (y1 ≥ 0)))) rfl) rfl ?_
  refine RO.nil (nx ?_)
  obtain rfl := Option.some.inj h
  refine ex_ret ?_
  exact ret1 (.inr rfl) rfl rfl (P1.of_flat HS hs rfl)
theorem c_impl_IsStructure_1 {w : World} {x : List Int × List Int × Int × Int} {v_x0 : Value} {v_x1 : Value} {a1 : Int} {p_a1 : Value} (r_x0 : Rd (.sl 3 (.int .i64)) (hp w) x.1 [v_x0]) (r_x1 : Rd (.sl 3 (.int .i64)) (hp w) x.2.1 [v_x1]) (l_a1 : AtH (hp w) p_a1 [iv a1]) {r : Bool} (h : F_impl_IsStructure_1 x a1 = some r) : Calls Try.prog 102 [.agg #[v_x0, v_x1, iv x.2.2.1, iv x.2.2.2], p_a1].toArray w (P1 .bool w r) := by
  unfold F_impl_IsStructure_1 at h
  have HS := St.init w
  have hs := Sub.refl (hp w)
  refine calls_ex (n := 44) Try.func102 rfl Try.ntmps102 (Nat.le_of_ble_eq_true rfl) ?_
  refine ex_seq ?_
  refine ex_region ?_
  refine ro_hy (o_boxz HS (cs := [v_x0, v_x1, iv x.2.2.1, iv x.2.2.2]) rfl rfl) rfl ?_
  rintro _ w2 ⟨g1, H5, rfl, q3, l4, hb, HS⟩
  replace r_x0 := r_x0.sub q3
  replace r_x1 := r_x1.sub q3
  replace l_a1 := l_a1.sub q3
  replace hs := hs.trans q3
  refine ro_lt (r_as (v := .bool false) rfl) rfl ?_
  refine RO.nil (nx ?_)
  refine ex_seq ?_
  refine ex_region ?_
  refine ro_lt (r_fa (l4.sub HS.sub) fd72_0 rfl) rfl ?_
  refine ro_lt (r_ld ((l4.seg 0 1).sub HS.sub) sc25 rfl) rfl ?_
  have b6 := (r_x0.sub HS.sub).big
  refine ro_lt (r_len (n := 1) (r_x0.sub HS.sub) sl25 rfl) rfl ?_
  refine ro_lt (r_ld (l_a1.sub HS.sub) sc3 rfl) rfl ?_
  refine ro_lt (r_neq rfl rfl) rfl ?_
  refine ro_lt (r_mv (v := .bool ((!(decide ((x.1.length : Int) = a1))))) rfl) rfl ?_
  replace h := ite_some h; rcases h with ⟨c7, h⟩ | ⟨c7, h⟩
  rotate_left
  · refine ro_off (sb (congrArg (!·) (decide_eq_false c7))) rfl rfl ?_
    refine ro_off (sb (congrArg (!·) (decide_eq_false c7))) rfl rfl ?_
    refine ro_off (sb (congrArg (!·) (decide_eq_false c7))) rfl rfl ?_
    refine ro_off (sb (congrArg (!·) (decide_eq_false c7))) rfl rfl ?_
    refine ro_off (sb (congrArg (!·) (decide_eq_false c7))) rfl rfl ?_
    refine ro_lt (r_pickt (v := .bool true) (congrArg (!·) (decide_eq_false c7)) rfl rfl) rfl ?_
    refine ro_lt (r_mv (v := .bool true) rfl) rfl ?_
    refine ro_off (sb (rfl)) rfl rfl ?_
    refine ro_off (sb (rfl)) rfl rfl ?_
    refine ro_off (sb (rfl)) rfl rfl ?_
    refine ro_off (sb (rfl)) rfl rfl ?_
    refine ro_lt (r_pickt (v := .bool true) (rfl) rfl rfl) rfl ?_
    refine ro_lt (r_mv (v := .bool true) rfl) rfl ?_
    refine ro_off (sb (rfl)) rfl rfl ?_
    refine ro_off (sb (rfl)) rfl rfl ?_
    refine ro_off (sb (rfl)) rfl rfl ?_
    refine ro_off (sb (rfl)) rfl rfl ?_
    refine ro_lt (r_pickt (v := .bool true) (rfl) rfl rfl) rfl ?_
    refine ro_lt (r_mv (v := .bool true) rfl) rfl ?_
    refine ro_off (sb (rfl)) rfl rfl ?_
    refine ro_off (sb (rfl)) rfl rfl ?_
    refine ro_off (sb (rfl)) rfl rfl ?_
    refine ro_off (sb (rfl)) rfl rfl ?_
    refine ro_lt (r_pickt (v := .bool true) (rfl) rfl rfl) rfl ?_
    refine ro_lt (r_mv (v := .bool true) rfl) rfl ?_
    refine ro_off (sb (rfl)) rfl rfl ?_
    refine ro_off (sb (rfl)) rfl rfl ?_
    refine ro_off (sb (rfl)) rfl rfl ?_
    refine ro_off (sb (rfl)) rfl rfl ?_
    refine ro_offn rfl rfl ?_
    refine ro_offn rfl rfl ?_
    refine ro_offn rfl rfl ?_
    refine ro_off (sb (rfl)) rfl rfl ?_
    refine ro_lt (r_pickt (v := .bool true) (rfl) rfl rfl) rfl ?_
    refine ro_lt (r_as (v := .bool true) rfl) rfl ?_
    refine RO.nil (nx ?_)
    obtain rfl := Option.some.inj h
    refine ex_ret ?_
    exact ret1 (.inr rfl) rfl rfl (P1.of_flat HS hs rfl)
  refine ro_on (sb (congrArg (!·) (decide_eq_true c7))) ?_
  refine ro_lt (r_fa (l4.sub HS.sub) fd72_1 rfl) rfl ?_
  refine ro_on (sb (congrArg (!·) (decide_eq_true c7))) ?_
  refine ro_lt (r_ld ((l4.seg 1 1).sub HS.sub) sc25 rfl) rfl ?_
  have b8 := (r_x1.sub HS.sub).big
  refine ro_on (sb (congrArg (!·) (decide_eq_true c7))) ?_
  refine ro_lt (r_len (n := 1) (r_x1.sub HS.sub) sl25 rfl) rfl ?_
  refine ro_on (sb (congrArg (!·) (decide_eq_true c7))) ?_
  refine ro_lt (r_ld (l_a1.sub HS.sub) sc3 rfl) rfl ?_
  refine ro_on (sb (congrArg (!·) (decide_eq_true c7))) ?_
  refine ro_lt (r_neq rfl rfl) rfl ?_
  refine ro_lt (r_pickf (v := .bool ((!(decide ((x.2.1.length : Int) = a1))))) (congrArg (!·) (decide_eq_true c7)) rfl rfl) rfl ?_
  refine ro_lt (r_mv (v := .bool ((!(decide ((x.2.1.length : Int) = a1))))) rfl) rfl ?_
  replace h := ite_some h; rcases h with ⟨c9, h⟩ | ⟨c9, h⟩
  rotate_left
  · refine ro_off (sb (congrArg (!·) (decide_eq_false c9))) rfl rfl ?_
    refine ro_off (sb (congrArg (!·) (decide_eq_false c9))) rfl rfl ?_
    refine ro_off (sb (congrArg (!·) (decide_eq_false c9))) rfl rfl ?_
    refine ro_off (sb (congrArg (!·) (decide_eq_false c9))) rfl rfl ?_
    refine ro_lt (r_pickt (v := .bool true) (congrArg (!·) (decide_eq_false c9)) rfl rfl) rfl ?_
    refine ro_lt (r_mv (v := .bool true) rfl) rfl ?_
    refine ro_off (sb (rfl)) rfl rfl ?_
    refine ro_off (sb (rfl)) rfl rfl ?_
    refine ro_off (sb (rfl)) rfl rfl ?_
    refine ro_off (sb (rfl)) rfl rfl ?_
    refine ro_lt (r_pickt (v := .bool true) (rfl) rfl rfl) rfl ?_
    refine ro_lt (r_mv (v := .bool true) rfl) rfl ?_
    refine ro_off (sb (rfl)) rfl rfl ?_
    refine ro_off (sb (rfl)) rfl rfl ?_
    refine ro_off (sb (rfl)) rfl rfl ?_
    refine ro_off (sb (rfl)) rfl rfl ?_
    refine ro_lt (r_pickt (v := .bool true) (rfl) rfl rfl) rfl ?_
    refine ro_lt (r_mv (v := .bool true) rfl) rfl ?_
    refine ro_off (sb (rfl)) rfl rfl ?_
    refine ro_off (sb (rfl)) rfl rfl ?_
    refine ro_off (sb (rfl)) rfl rfl ?_
    refine ro_off (sb (rfl)) rfl rfl ?_
    refine ro_offn rfl rfl ?_
    refine ro_offn rfl rfl ?_
    refine ro_offn rfl rfl ?_
    refine ro_off (sb (rfl)) rfl rfl ?_
    refine ro_lt (r_pickt (v := .bool true) (rfl) rfl rfl) rfl ?_
    refine ro_lt (r_as (v := .bool true) rfl) rfl ?_
    refine RO.nil (nx ?_)
    obtain rfl := Option.some.inj h
    refine ex_ret ?_
    exact ret1 (.inr rfl) rfl rfl (P1.of_flat HS hs rfl)
  refine ro_on (sb (congrArg (!·) (decide_eq_true c9))) ?_
  refine ro_lt (r_fa (l4.sub HS.sub) fd72_0 rfl) rfl ?_
  refine ro_on (sb (congrArg (!·) (decide_eq_true c9))) ?_
  refine ro_lt (r_ld ((l4.seg 0 1).sub HS.sub) sc25 rfl) rfl ?_
  replace h := bind_some h; obtain ⟨y10, e11, h⟩ := h
  refine ro_on (sb (congrArg (!·) (decide_eq_true c9))) ?_
  refine ro_hy (o_cf (vs := [v_x0]) HS rfl (c_impl_areTruths (r_x0.sub HS.sub) e11) cf100 rfl) rfl ?_
  rintro _ w12 ⟨rfl, hb, HS⟩
  refine ro_on (sb (congrArg (!·) (decide_eq_true c9))) ?_
  refine ro_lt (r_not rfl) rfl ?_
  refine ro_lt (r_pickf (v := .bool ((!y10))) (congrArg (!·) (decide_eq_true c9)) rfl rfl) rfl ?_
  refine ro_lt (r_mv (v := .bool ((!y10))) rfl) rfl ?_
  replace h := ite_some h; rcases h with ⟨c13, h⟩ | ⟨c13, h⟩
  rotate_left
  · refine ro_off (sb (congrArg (!·) (bf c13))) rfl rfl ?_
    refine ro_off (sb (congrArg (!·) (bf c13))) rfl rfl ?_
    refine ro_off (sb (congrArg (!·) (bf c13))) rfl rfl ?_
    refine ro_off (sb (congrArg (!·) (bf c13))) rfl rfl ?_
    refine ro_lt (r_pickt (v := .bool true) (congrArg (!·) (bf c13)) rfl rfl) rfl ?_
    refine ro_lt (r_mv (v := .bool true) rfl) rfl ?_
    refine ro_off (sb (rfl)) rfl rfl ?_
    refine ro_off (sb (rfl)) rfl rfl ?_
    refine ro_off (sb (rfl)) rfl rfl ?_
    refine ro_off (sb (rfl)) rfl rfl ?_
    refine ro_lt (r_pickt (v := .bool true) (rfl) rfl rfl) rfl ?_
    refine ro_lt (r_mv (v := .bool true) rfl) rfl ?_
    refine ro_off (sb (rfl)) rfl rfl ?_
    refine ro_off (sb (rfl)) rfl rfl ?_
    refine ro_off (sb (rfl)) rfl rfl ?_
    refine ro_off (sb (rfl)) rfl rfl ?_
    refine ro_offn rfl rfl ?_
    refine ro_offn rfl rfl ?_
    refine ro_offn rfl rfl ?_
    refine ro_off (sb (rfl)) rfl rfl ?_
    refine ro_lt (r_pickt (v := .bool true) (rfl) rfl rfl) rfl ?_
    refine ro_lt (r_as (v := .bool true) rfl) rfl ?_
    refine RO.nil (nx ?_)
    obtain rfl := Option.some.inj h
    refine ex_ret ?_
    exact ret1 (.inr rfl) rfl rfl (P1.of_flat HS hs rfl)
  refine ro_on (sb (congrArg (!·) (c13))) ?_
  refine ro_lt (r_fa (l4.sub HS.sub) fd72_1 rfl) rfl ?_
  refine ro_on (sb (congrArg (!·) (c13))) ?_
  refine ro_lt (r_ld ((l4.seg 1 1).sub HS.sub) sc25 rfl) rfl ?_
  replace h := bind_some h; obtain ⟨y14, e15, h⟩ := h
  refine ro_on (sb (congrArg (!·) (c13))) ?_
  refine ro_hy (o_cf (vs := [v_x1]) HS rfl (c_impl_areTruths (r_x1.sub HS.sub) e15) cf100 rfl) rfl ?_
  rintro _ w16 ⟨rfl, hb, HS⟩
  refine ro_on (sb (congrArg (!·) (c13))) ?_
  refine ro_lt (r_not rfl) rfl ?_
  refine ro_lt (r_pickf (v := .bool ((!y14))) (congrArg (!·) (c13)) rfl rfl) rfl ?_
  refine ro_lt (r_mv (v := .bool ((!y14))) rfl) rfl ?_
  replace h := ite_some h; rcases h with ⟨c17, h⟩ | ⟨c17, h⟩
  rotate_left
  · refine ro_off (sb (congrArg (!·) (bf c17))) rfl rfl ?_
    refine ro_off (sb (congrArg (!·) (bf c17))) rfl rfl ?_
    refine ro_off (sb (congrArg (!·) (bf c17))) rfl rfl ?_
    refine ro_off (sb (congrArg (!·) (bf c17))) rfl rfl ?_
    refine ro_lt (r_pickt (v := .bool true) (congrArg (!·) (bf c17)) rfl rfl) rfl ?_
    refine ro_lt (r_mv (v := .bool true) rfl) rfl ?_
    refine ro_off (sb (rfl)) rfl rfl ?_
    refine ro_off (sb (rfl)) rfl rfl ?_
    refine ro_off (sb (rfl)) rfl rfl ?_
    refine ro_off (sb (rfl)) rfl rfl ?_
    refine ro_offn rfl rfl ?_
    refine ro_offn rfl rfl ?_
    refine ro_offn rfl rfl ?_
    refine ro_off (sb (rfl)) rfl rfl ?_
    refine ro_lt (r_pickt (v := .bool true) (rfl) rfl rfl) rfl ?_
    refine ro_lt (r_as (v := .bool true) rfl) rfl ?_
    refine RO.nil (nx ?_)
    obtain rfl := Option.some.inj h
    refine ex_ret ?_
    exact ret1 (.inr rfl) rfl rfl (P1.of_flat HS hs rfl)
  refine ro_on (sb (congrArg (!·) (c17))) ?_
  refine ro_lt (r_fa (l4.sub HS.sub) fd72_2 rfl) rfl ?_
  refine ro_on (sb (congrArg (!·) (c17))) ?_
  refine ro_lt (r_ld ((l4.seg 2 1).sub HS.sub) sc3 rfl) rfl ?_
  replace h := bind_some h; obtain ⟨y18, e19, h⟩ := h
  refine ro_on (sb (congrArg (!·) (c17))) ?_
  refine ro_hy (o_cf (vs := [iv x.2.2.1]) HS rfl (c_impl_IsTruth e19) cf103 rfl) rfl ?_
  rintro _ w20 ⟨rfl, hb, HS⟩
  refine ro_on (sb (congrArg (!·) (c17))) ?_
  refine ro_lt (r_not rfl) rfl ?_
  refine ro_lt (r_pickf (v := .bool ((!y18))) (congrArg (!·) (c17)) rfl rfl) rfl ?_
  refine ro_lt (r_mv (v := .bool ((!y18))) rfl) rfl ?_
  replace h := ite_some h; rcases h with ⟨c21, h⟩ | ⟨c21, h⟩
  rotate_left
  · refine ro_off (sb (congrArg (!·) (bf c21))) rfl rfl ?_
    refine ro_off (sb (congrArg (!·) (bf c21))) rfl rfl ?_
    refine ro_off (sb (congrArg (!·) (bf c21))) rfl rfl ?_
    refine ro_off (sb (congrArg (!·) (bf c21))) rfl rfl ?_
    refine ro_offn rfl rfl ?_
    refine ro_offn rfl rfl ?_
    refine ro_offn rfl rfl ?_
    refine ro_off (sb (congrArg (!·) (bf c21))) rfl rfl ?_
    refine ro_lt (r_pickt (v := .bool true) (congrArg (!·) (bf c21)) rfl rfl) rfl ?_
    refine ro_lt (r_as (v := .bool true) rfl) rfl ?_
    refine RO.nil (nx ?_)
    obtain rfl := Option.some.inj h
    refine ex_ret ?_
    exact ret1 (.inr rfl) rfl rfl (P1.of_flat HS hs rfl)
  refine ro_on (sb (congrArg (!·) (c21))) ?_
  refine ro_lt (r_fa (l4.sub HS.sub) fd72_3 rfl) rfl ?_
  refine ro_on (sb (congrArg (!·) (c21))) ?_
  refine ro_lt (r_ld ((l4.seg 3 1).sub HS.sub) sc3 rfl) rfl ?_
  refine ro_on (sb (congrArg (!·) (c21))) ?_
  refine ro_lt (r_neq rfl rfl) rfl ?_
  refine ro_on (sb (congrArg (!·) (c21))) ?_
  refine ro_lt (r_mv (v := .bool ((!(decide (x.2.2.2 = 0))))) rfl) rfl ?_
  replace h := ite_some h; rcases h with ⟨c22, h⟩ | ⟨c22, h⟩
  · refine ro_off (sb (congrArg (!·) (decide_eq_true c22))) rfl rfl ?_
    refine ro_off (sb (congrArg (!·) (decide_eq_true c22))) rfl rfl ?_
    refine ro_off (sb (congrArg (!·) (decide_eq_true c22))) rfl rfl ?_
    refine ro_on (sb (congrArg (!·) (c21))) ?_
    refine ro_lt (r_pickf (v := .bool false) (congrArg (!·) (decide_eq_true c22)) rfl rfl) rfl ?_
    refine ro_lt (r_pickf (v := .bool false) (congrArg (!·) (c21)) rfl rfl) rfl ?_
    refine ro_lt (r_as (v := .bool false) rfl) rfl ?_
    refine RO.nil (nx ?_)
    obtain rfl := Option.some.inj h
    refine ex_ret ?_
    exact ret1 (.inr rfl) rfl rfl (P1.of_flat HS hs rfl)
  refine ro_on (sb (congrArg (!·) (decide_eq_false c22))) ?_
  refine ro_lt (r_fa (l4.sub HS.sub) fd72_3 rfl) rfl ?_
  refine ro_on (sb (congrArg (!·) (decide_eq_false c22))) ?_
  refine ro_lt (r_ld ((l4.seg 3 1).sub HS.sub) sc3 rfl) rfl ?_
  refine ro_on (sb (congrArg (!·) (decide_eq_false c22))) ?_
  refine ro_lt (r_neq rfl rfl) rfl ?_
  refine ro_on (sb (congrArg (!·) (c21))) ?_
  refine ro_lt (r_pickt (v := .bool ((!(decide (x.2.2.2 = 1))))) (congrArg (!·) (decide_eq_false c22)) rfl rfl) rfl ?_
  refine ro_lt (r_pickf (v := .bool ((!(decide (x.2.2.2 = 1))))) (congrArg (!·) (c21)) rfl rfl) rfl ?_
  refine ro_lt (r_as (v := .bool ((!(decide (x.2.2.2 = 1))))) rfl) rfl ?_
  refine RO.nil (nx ?_)
  obtain rfl := Option.some.inj h
  refine ex_ret ?_
  exact ret1 (.inr rfl) rfl rfl (P1.of_flat HS hs rfl)
theorem c_impl_IsStructure {w : World} {vars : Int} {s : (List (List Int × List Int × Int × Int)) × List Int} {v_s0 : Value} {v_s1 : Value} (r_s0 : Rd (.sl 72 (.prod (.sl 3 (.int .i64)) (.prod (.sl 3 (.int .i64)) (.prod (.int .i64) (.int .i64))))) (hp w) s.1 [v_s0]) (r_s1 : Rd (.sl 3 (.int .i64)) (hp w) s.2 [v_s1]) {r : Bool} (h : F_impl_IsStructure vars s = some r) : Calls Try.prog 47 [iv vars, .agg #[v_s0, v_s1]].toArray w (P1 .bool w r) := by
  unfold F_impl_IsStructure at h
  have HS := St.init w
  have hs := Sub.refl (hp w)
  refine calls_ex (n := 38) Try.func47 rfl Try.ntmps47 (Nat.le_of_ble_eq_true rfl) ?_
  refine ex_seq ?_
  refine ex_region ?_
  refine ro_hy (o_boxz HS (cs := [iv vars]) rfl rfl) rfl ?_
  rintro _ w2 ⟨g1, H5, rfl, q3, l4, hb, HS⟩
  replace r_s0 := r_s0.sub q3
  replace r_s1 := r_s1.sub q3
  replace hs := hs.trans q3
  refine ro_hy (o_boxz HS (cs := [v_s0, v_s1]) rfl rfl) rfl ?_
  rintro _ w7 ⟨g6, H10, rfl, q8, l9, hb, HS⟩
  replace r_s0 := r_s0.sub q8
  replace r_s1 := r_s1.sub q8
  replace l4 := l4.sub q8
  replace hs := hs.trans q8
  refine ro_lt (r_as (v := .bool false) rfl) rfl ?_
  refine RO.nil (nx ?_)
  refine ex_seq ?_
  refine ex_seq ?_
  refine ex_region ?_
  refine ro_lt (r_ld (l4.sub HS.sub) sc3 rfl) rfl ?_
  replace h := bind_some h; obtain ⟨y11, e12, h⟩ := h
  refine ro_hy (o_cf (vs := [iv vars, iv 1, iv 4]) HS rfl (c_impl_within e12) cf99 rfl) rfl ?_
  rintro _ w13 ⟨rfl, hb, HS⟩
  refine ro_lt (r_not rfl) rfl ?_
  refine ro_lt (r_mv (v := .bool ((!y11))) rfl) rfl ?_
  replace h := ite_some h; rcases h with ⟨c14, h⟩ | ⟨c14, h⟩
  rotate_left
  · refine ro_off (sb (congrArg (!·) (bf c14))) rfl rfl ?_
    refine ro_off (sb (congrArg (!·) (bf c14))) rfl rfl ?_
    refine ro_off (sb (congrArg (!·) (bf c14))) rfl rfl ?_
    refine ro_off (sb (congrArg (!·) (bf c14))) rfl rfl ?_
    refine ro_lt (r_pickt (v := .bool true) (congrArg (!·) (bf c14)) rfl rfl) rfl ?_
    refine ro_lt (r_mv (v := .bool true) rfl) rfl ?_
    refine ro_off (sb (rfl)) rfl rfl ?_
    refine ro_off (sb (rfl)) rfl rfl ?_
    refine ro_off (sb (rfl)) rfl rfl ?_
    refine ro_off (sb (rfl)) rfl rfl ?_
    refine ro_off (sb (rfl)) rfl rfl ?_
    refine ro_off (sb (rfl)) rfl rfl ?_
    refine ro_off (sb (rfl)) rfl rfl ?_
    refine ro_off (sb (rfl)) rfl rfl ?_
    refine ro_off (sb (rfl)) rfl rfl ?_
    refine ro_off (sb (rfl)) rfl rfl ?_
    refine ro_off (sb (rfl)) rfl rfl ?_
    refine ro_lt (r_pickt (v := .bool true) (rfl) rfl rfl) rfl ?_
    refine ro_lt (r_mv (v := .bool true) rfl) rfl ?_
    refine ro_off (sb (rfl)) rfl rfl ?_
    refine ro_off (sb (rfl)) rfl rfl ?_
    refine ro_off (sb (rfl)) rfl rfl ?_
    refine ro_off (sb (rfl)) rfl rfl ?_
    refine ro_lt (r_pickt (v := .bool true) (rfl) rfl rfl) rfl ?_
    refine RO.nil (nx ?_)
    refine ex_if_t rfl (rfl) ?_
    refine ex_seq ?_
    refine ex_region ?_
    refine ro_lt (r_as (v := .bool false) rfl) rfl ?_
    refine RO.nil (nx ?_)
    obtain rfl := Option.some.inj h
    refine ex_ret (tq_ret ?_)
    exact ret1 (.inr rfl) rfl rfl (P1.of_flat HS hs rfl)
  refine ro_on (sb (congrArg (!·) (c14))) ?_
  refine ro_lt (r_fa (l9.sub HS.sub) fd27_0 rfl) rfl ?_
  refine ro_on (sb (congrArg (!·) (c14))) ?_
  refine ro_lt (r_ld ((l9.seg 0 1).sub HS.sub) sc24 rfl) rfl ?_
  have b15 := (r_s0.sub HS.sub).big
  refine ro_on (sb (congrArg (!·) (c14))) ?_
  refine ro_lt (r_len (n := 4) (r_s0.sub HS.sub) sl24 rfl) rfl ?_
  refine ro_on (sb (congrArg (!·) (c14))) ?_
  refine ro_lt (r_gtr rfl rfl) rfl ?_
  refine ro_lt (r_pickf (v := .bool ((decide ((s.1.length : Int) > 10)))) (congrArg (!·) (c14)) rfl rfl) rfl ?_
  refine ro_lt (r_mv (v := .bool ((decide ((s.1.length : Int) > 10)))) rfl) rfl ?_
  replace h := ite_some h; rcases h with ⟨c16, h⟩ | ⟨c16, h⟩
  · refine ro_off (sb (decide_eq_true c16)) rfl rfl ?_
    refine ro_off (sb (decide_eq_true c16)) rfl rfl ?_
    refine ro_off (sb (decide_eq_true c16)) rfl rfl ?_
    refine ro_off (sb (decide_eq_true c16)) rfl rfl ?_
    refine ro_off (sb (decide_eq_true c16)) rfl rfl ?_
    refine ro_off (sb (decide_eq_true c16)) rfl rfl ?_
    refine ro_off (sb (decide_eq_true c16)) rfl rfl ?_
    refine ro_off (sb (decide_eq_true c16)) rfl rfl ?_
    refine ro_off (sb (decide_eq_true c16)) rfl rfl ?_
    refine ro_off (sb (decide_eq_true c16)) rfl rfl ?_
    refine ro_off (sb (decide_eq_true c16)) rfl rfl ?_
    refine ro_lt (r_pickt (v := .bool true) (decide_eq_true c16) rfl rfl) rfl ?_
    refine ro_lt (r_mv (v := .bool true) rfl) rfl ?_
    refine ro_off (sb (rfl)) rfl rfl ?_
    refine ro_off (sb (rfl)) rfl rfl ?_
    refine ro_off (sb (rfl)) rfl rfl ?_
    refine ro_off (sb (rfl)) rfl rfl ?_
    refine ro_lt (r_pickt (v := .bool true) (rfl) rfl rfl) rfl ?_
    refine RO.nil (nx ?_)
    refine ex_if_t rfl (rfl) ?_
    refine ex_seq ?_
    refine ex_region ?_
    refine ro_lt (r_as (v := .bool false) rfl) rfl ?_
    refine RO.nil (nx ?_)
    obtain rfl := Option.some.inj h
    refine ex_ret (tq_ret ?_)
    exact ret1 (.inr rfl) rfl rfl (P1.of_flat HS hs rfl)
  refine ro_on (sb (decide_eq_false c16)) ?_
  refine ro_lt (r_fa (l9.sub HS.sub) fd27_1 rfl) rfl ?_
  refine ro_on (sb (decide_eq_false c16)) ?_
  refine ro_lt (r_ld ((l9.seg 1 1).sub HS.sub) sc25 rfl) rfl ?_
  have b17 := (r_s1.sub HS.sub).big
  refine ro_on (sb (decide_eq_false c16)) ?_
  refine ro_lt (r_len (n := 1) (r_s1.sub HS.sub) sl25 rfl) rfl ?_
  refine ro_on (sb (decide_eq_false c16)) ?_
  refine ro_lt (r_fa (l9.sub HS.sub) fd27_0 rfl) rfl ?_
  refine ro_on (sb (decide_eq_false c16)) ?_
  refine ro_lt (r_ld ((l9.seg 0 1).sub HS.sub) sc24 rfl) rfl ?_
  refine ro_on (sb (decide_eq_false c16)) ?_
  refine ro_lt (r_len (n := 4) (r_s0.sub HS.sub) sl24 rfl) rfl ?_
  refine ro_on (sb (decide_eq_false c16)) ?_
  refine ro_lt (r_fa (l9.sub HS.sub) fd27_0 rfl) rfl ?_
  refine ro_on (sb (decide_eq_false c16)) ?_
  refine ro_lt (r_ld ((l9.seg 0 1).sub HS.sub) sc24 rfl) rfl ?_
  refine ro_on (sb (decide_eq_false c16)) ?_
  refine ro_lt (r_len (n := 4) (r_s0.sub HS.sub) sl24 rfl) rfl ?_
  refine ro_on (sb (decide_eq_false c16)) ?_
  refine ro_lt (r_mulw rfl rfl) rfl ?_
  refine ro_on (sb (decide_eq_false c16)) ?_
  refine ro_lt (r_neq rfl rfl) rfl ?_
  refine ro_lt (r_pickf (v := .bool ((!(decide ((s.2.length : Int) = wi ((s.1.length : Int) * (s.1.length : Int))))))) (decide_eq_false c16) rfl rfl) rfl ?_
  refine ro_lt (r_mv (v := .bool ((!(decide ((s.2.length : Int) = wi ((s.1.length : Int) * (s.1.length : Int))))))) rfl) rfl ?_
  replace h := ite_some h; rcases h with ⟨c18, h⟩ | ⟨c18, h⟩
  rotate_left
  · refine ro_off (sb (congrArg (!·) (decide_eq_false c18))) rfl rfl ?_
    refine ro_off (sb (congrArg (!·) (decide_eq_false c18))) rfl rfl ?_
    refine ro_off (sb (congrArg (!·) (decide_eq_false c18))) rfl rfl ?_
    refine ro_off (sb (congrArg (!·) (decide_eq_false c18))) rfl rfl ?_
    refine ro_lt (r_pickt (v := .bool true) (congrArg (!·) (decide_eq_false c18)) rfl rfl) rfl ?_
    refine RO.nil (nx ?_)
    refine ex_if_t rfl (rfl) ?_
    refine ex_seq ?_
    refine ex_region ?_
    refine ro_lt (r_as (v := .bool false) rfl) rfl ?_
    refine RO.nil (nx ?_)
    obtain rfl := Option.some.inj h
    refine ex_ret (tq_ret ?_)
    exact ret1 (.inr rfl) rfl rfl (P1.of_flat HS hs rfl)
  refine ro_on (sb (congrArg (!·) (decide_eq_true c18))) ?_
  refine ro_lt (r_fa (l9.sub HS.sub) fd27_1 rfl) rfl ?_
  refine ro_on (sb (congrArg (!·) (decide_eq_true c18))) ?_
  refine ro_lt (r_ld ((l9.seg 1 1).sub HS.sub) sc25 rfl) rfl ?_
  replace h := bind_some h; obtain ⟨y19, e20, h⟩ := h
  refine ro_on (sb (congrArg (!·) (decide_eq_true c18))) ?_
  refine ro_hy (o_cf (vs := [v_s1]) HS rfl (c_impl_areTruths (r_s1.sub HS.sub) e20) cf100 rfl) rfl ?_
  rintro _ w21 ⟨rfl, hb, HS⟩
  refine ro_on (sb (congrArg (!·) (decide_eq_true c18))) ?_
  refine ro_lt (r_not rfl) rfl ?_
  refine ro_lt (r_pickf (v := .bool ((!y19))) (congrArg (!·) (decide_eq_true c18)) rfl rfl) rfl ?_
  refine RO.nil (nx ?_)
  replace h := ite_some h; rcases h with ⟨c22, h⟩ | ⟨c22, h⟩
  rotate_left
  · refine ex_if_t rfl (congrArg (!·) (bf c22)) ?_
    refine ex_seq ?_
    refine ex_region ?_
    refine ro_lt (r_as (v := .bool false) rfl) rfl ?_
    refine RO.nil (nx ?_)
    obtain rfl := Option.some.inj h
    refine ex_ret (tq_ret ?_)
    exact ret1 (.inr rfl) rfl rfl (P1.of_flat HS hs rfl)
  refine ex_if_f rfl (congrArg (!·) (c22)) ?_
  refine ex_skip (nx ?_)
  refine ex_seq ?_
  refine ex_region ?_
  refine ro_lt (r_fa (l9.sub HS.sub) fd27_0 rfl) rfl ?_
  refine ro_lt (r_ld ((l9.seg 0 1).sub HS.sub) sc24 rfl) rfl ?_
  refine ro_lt (r_mkf (fs := []) (cs := [.pointer (some ⟨g1, 0, none⟩)]) rfl rfl) rfl ?_
  replace h := bind_some h; obtain ⟨y28, e29, h⟩ := h
  refine ro_hy (o_cf (vs := [v_s0, .func (.func 102) #[] #[.pointer (some ⟨g1, 0, none⟩)]]) HS rfl (c_slices_ContainsFunc_Node_Node (r_s0.sub HS.sub) ⟨102, [], [.pointer (some ⟨g1, 0, none⟩)], rfl, cf102, by intro w' x23 c24 r' hs' r25 hx; obtain ⟨_, _, rfl, r26, r27⟩ := rd_K72 r25; exact c_impl_IsStructure_1 r26 r27 (l4.sub (HS.sub.trans hs')) hx⟩ e29) cf101 rfl) rfl ?_
  rintro _ w30 ⟨rfl, hb, HS⟩
  refine ro_lt (r_not rfl) rfl ?_
  refine ro_lt (r_as (v := .bool ((!y28))) rfl) rfl ?_
  refine RO.nil (nx ?_)
  obtain rfl := Option.some.inj h
  refine ex_ret ?_
  exact ret1 (.inr rfl) rfl rfl (P1.of_flat HS hs rfl)
theorem c_Node_own {w : World} {x : List Int × List Int × Int × Int} {v_x0 : Value} {v_x1 : Value} (r_x0 : Rd (.sl 3 (.int .i64)) (hp w) x.1 [v_x0]) (r_x1 : Rd (.sl 3 (.int .i64)) (hp w) x.2.1 [v_x1]) {r : (List Int × List Int × Int × Int)} (h : F_Node_own x = some r) : Calls Try.prog 93 [.agg #[v_x0, v_x1, iv x.2.2.1, iv x.2.2.2]].toArray w (P1 (.prod (.sl 3 (.int .i64)) (.prod (.sl 3 (.int .i64)) (.prod (.int .i64) (.int .i64)))) w r) := by
  unfold F_Node_own at h
  have HS := St.init w
  have hs := Sub.refl (hp w)
  refine calls_ex (n := 14) Try.func93 rfl Try.ntmps93 (Nat.le_of_ble_eq_true rfl) ?_
  refine ex_seq ?_
  refine ex_region ?_
  refine ro_hy (o_boxz HS (cs := [v_x0, v_x1, iv x.2.2.1, iv x.2.2.2]) rfl rfl) rfl ?_
  rintro _ w2 ⟨g1, H5, rfl, q3, l4, hb, HS⟩
  replace r_x0 := r_x0.sub q3
  replace r_x1 := r_x1.sub q3
  replace hs := hs.trans q3
  refine ro_hy (o_alloc HS (cs := [.slice none 0 0, .slice none 0 0, iv 0, iv 0]) ze72 rfl) rfl ?_
  rintro _ w7 ⟨g6, rfl, hb, HS⟩
  refine RO.nil (nx ?_)
  refine ex_seq ?_
  refine ex_dr (Mm H5 []) (fun _ => True) [0, 1, 3, 0, 8, 31, 0, 64, 0, 256, 1023, 2047] [2, 5, 11] (.op 0 (.op 1 (.op 3 (.op 4 (.op 6 (.op 7 (.op 8 (.op 9 (.op 2 (.op 5 (.op 10 (.op 11 .nil)))))))))))) mix (by kernel_rfl) (by kernel_rfl) ?_
  intro w9 hw hb; have HS := HS.ext hb; clear hw hb
  refine RT.lt rfl rfl rfl rfl (fun w' k => r_fa (l4.sub HS.sub) fd72_0 rfl) ?_
  refine RT.lt rfl rfl rfl rfl (fun w' k => r_ld ((l4.seg 0 1).kp HS.sub k.kp (mh rfl)) sc25 rfl) ?_
  refine RT.lt rfl rfl rfl rfl (fun w' k => r_fa (l4.sub HS.sub) fd72_1 rfl) ?_
  refine RT.lt rfl rfl rfl rfl (fun w' k => r_ld ((l4.seg 1 1).kp HS.sub k.kp (mh rfl)) sc25 rfl) ?_
  refine RT.lt rfl rfl rfl rfl (fun w' k => r_fa (l4.sub HS.sub) fd72_2 rfl) ?_
  refine RT.lt rfl rfl rfl rfl (fun w' k => r_ld ((l4.seg 2 1).kp HS.sub k.kp (mh rfl)) sc3 rfl) ?_
  refine RT.lt rfl rfl rfl rfl (fun w' k => r_fa (l4.sub HS.sub) fd72_3 rfl) ?_
  refine RT.lt rfl rfl rfl rfl (fun w' k => r_ld ((l4.seg 3 1).kp HS.sub k.kp (mh rfl)) sc3 rfl) ?_
  replace h := bind_some h; obtain ⟨y10, e11, h⟩ := h
  refine RT.hy rfl rfl rfl rfl rfl (o_c1 (vs := [v_x0]) HS (c_slices_Clone_int_int (r_x0.sub HS.sub) e11) cf104 rfl) (fun _ _ ⟨_, _, hb, _⟩ => km_below hb (fun _ => trivial)) ?_
  rintro _ w12 ⟨cs13, rfl, hb, HS⟩
  obtain ⟨v15, rfl, -⟩ := (HS.rd 0 rfl).one
  replace h := bind_some h; obtain ⟨y16, e17, h⟩ := h
  refine RT.hy rfl rfl rfl rfl rfl (o_c1 (vs := [v_x1]) HS (c_slices_Clone_int_int (r_x1.sub HS.sub) e17) cf104 rfl) (fun _ _ ⟨_, _, hb, _⟩ => km_below hb (fun _ => trivial)) ?_
  rintro _ w18 ⟨cs19, rfl, hb, HS⟩
  obtain ⟨v21, rfl, -⟩ := (HS.rd 0 rfl).one
  refine RT.lt rfl rfl rfl rfl (fun w' k => r_bld (cells := [v15, v21, iv x.2.2.1, iv x.2.2.2]) bz72 rfl (vp (HS.rd 1 rfl).vc (vp (HS.rd 0 rfl).vc (vp rfl (vp rfl vp0)))) rfl) ?_
  refine RT.hy rfl rfl rfl rfl rfl (o_str (off := 0) (vs := [v15, v21, iv x.2.2.1, iv x.2.2.2]) (l' := [v15, v21, iv x.2.2.1, iv x.2.2.2]) (HS.sel (G := [_, _, _]) [2] 0 rfl) rfl rfl rfl st72 rfl rfl (pl (HS.rd 1 rfl).pl (pl (HS.rd 0 rfl).pl (pl rfl (pl rfl pl0)))) rfl) (fun _ _ ⟨_, hk, HS2⟩ => km_st HS (Sub.refl _) (hk (fun b => b = g6) rfl) (fun b hb => hb ▸ bx_none (HS.sel (G := [_, _, _]) [2] 0 rfl)) (by kernel_rfl) (fun _ => trivial)) ?_
  rintro _ w22 ⟨rfl, hk, HS⟩
  refine RT.nil (nx ?_)
  obtain rfl := Option.some.inj h
  refine ex_ret ?_
  exact ret1 (.inr rfl) rfl (rv_box HS (i := 0) rfl rfl ag72 rfl) (P1.of (((((((HS.add (t := (.int .i64)) (x := x.2.2.2) rfl rfl).add (t := (.int .i64)) (x := x.2.2.1) rfl rfl).join).sel (G := [_, _, _, _]) [2] 0 rfl).join).sel (G := [_, _, _]) [2] 0 rfl).join) hs)
theorem c_Str_own {w : World} {s : (List (List Int × List Int × Int × Int)) × List Int} {v_s0 : Value} {v_s1 : Value} (r_s0 : Rd (.sl 72 (.prod (.sl 3 (.int .i64)) (.prod (.sl 3 (.int .i64)) (.prod (.int .i64) (.int .i64))))) (hp w) s.1 [v_s0]) (r_s1 : Rd (.sl 3 (.int .i64)) (hp w) s.2 [v_s1]) {r : ((List (List Int × List Int × Int × Int)) × List Int)} (h : F_Str_own s = some r) : Calls Try.prog 49 [.agg #[v_s0, v_s1]].toArray w (P1 (.prod (.sl 72 (.prod (.sl 3 (.int .i64)) (.prod (.sl 3 (.int .i64)) (.prod (.int .i64) (.int .i64))))) (.sl 3 (.int .i64))) w r) := by
  unfold F_Str_own at h
  have HS := St.init w
  have hs := Sub.refl (hp w)
  refine calls_ex (n := 26) Try.func49 rfl Try.ntmps49 (Nat.le_of_ble_eq_true rfl) ?_
  refine ex_seq ?_
  refine ex_region ?_
  refine ro_hy (o_boxz HS (cs := [v_s0, v_s1]) rfl rfl) rfl ?_
  rintro _ w2 ⟨g1, H5, rfl, q3, l4, hb, HS⟩
  replace r_s0 := r_s0.sub q3
  replace r_s1 := r_s1.sub q3
  replace hs := hs.trans q3
  refine ro_hy (o_alloc HS (cs := [.slice none 0 0, .slice none 0 0]) ze27 rfl) rfl ?_
  rintro _ w7 ⟨g6, rfl, hb, HS⟩
  refine RO.nil (nx ?_)
  refine ex_seq ?_
  refine ex_region ?_
  refine ro_lt (r_fa (l4.sub HS.sub) fd27_1 rfl) rfl ?_
  refine ro_lt (r_ld ((l4.seg 1 1).sub HS.sub) sc25 rfl) rfl ?_
  replace h := bind_some h; obtain ⟨y9, e10, h⟩ := h
  refine ro_hy (o_c1 (vs := [v_s1]) HS (c_slices_Clone_int_int (r_s1.sub HS.sub) e10) cf104 rfl) rfl ?_
  rintro _ w11 ⟨cs12, rfl, hb, HS⟩
  obtain ⟨v14, rfl, -⟩ := (HS.rd 0 rfl).one
  refine ro_lt (r_bld (cells := [.slice none 0 0, v14]) bz27 rfl (vp (HS.rd 0 rfl).vc vp0) rfl) rfl ?_
  refine ro_hy (o_alloc HS (cs := [.slice none 0 0, .slice none 0 0]) ze27 rfl) rfl ?_
  rintro _ w16 ⟨g15, rfl, hb, HS⟩
  refine ro_hy (o_str (off := 0) (vs := [.slice none 0 0, v14]) (l' := [.slice none 0 0, v14]) HS rfl rfl rfl st27 rfl rfl (pl rfl (pl (HS.rd 1 rfl).pl pl0)) rfl) rfl ?_
  rintro _ w18 ⟨rfl, hk, HS⟩
  refine RO.nil (nx ?_)
  refine ex_seq ?_
  refine ex_seq ?_
  refine ex_region ?_
  refine ro_lt (r_fa (l4.sub HS.sub) fd27_0 rfl) rfl ?_
  refine ro_lt (r_ld ((l4.seg 0 1).sub HS.sub) sc24 rfl) rfl ?_
  have b20 := (r_s0.sub HS.sub).big
  refine ro_lt (r_len (n := 4) (r_s0.sub HS.sub) sl24 rfl) rfl ?_
  refine ro_lt (r_mv (v := iv 0) rfl) rfl ?_
  refine RO.nil (nx ?_)
  replace h := bind_some h; obtain ⟨y71, e72, h⟩ := h
  refine ex_lbo (fun (st : (List (List Int × List Int × Int × Int)) × Int) s' w' => ∃ v31 : Value, Has s' [(2, .pointer (some ⟨g6, 0, none⟩)), (3, .pointer (some ⟨g15, 0, none⟩)), (11, v_s0), (12, iv ((s.1.length : Int))), (13, iv st.2)] ∧ St w H5 w' [.ow (.sl 72 (.prod (.sl 3 (.int .i64)) (.prod (.sl 3 (.int .i64)) (.prod (.int .i64) (.int .i64))))) st.1 [v31], .bx g15 27 [v31, v14], .ow (.sl 3 (.int .i64)) y9 [v14], .bx g6 27 [.slice none 0 0, .slice none 0 0]]) e72 ⟨.slice none 0 0, ⟨rfl, rfl, rfl, rfl, rfl, trivial⟩, (HS.nil 72 (.prod (.sl 3 (.int .i64)) (.prod (.sl 3 (.int .i64)) (.prod (.int .i64) (.int .i64)))))⟩ ?_ ?_
  · rintro ⟨i29, i32⟩ c' s' w33 ⟨v31, hs_, HS⟩ h
    rw [has_put hs_]; clear hs_
    try dsimp only at HS
    replace h : F_Str_own_b1 s i29 i32 = some c' := h
    unfold F_Str_own_b1 at h
    refine ex_seq ?_
    refine ex_region ?_
    refine ro_lt (r_lss rfl rfl) rfl ?_
    refine RO.nil (nx ?_)
    refine ex_seq ?_
    replace h := ite_some h; rcases h with ⟨c34, h⟩ | ⟨c34, h⟩
    rotate_left
    · refine ex_if_f rfl (decide_eq_false c34) ?_
      refine ex_exit (tq_exit ?_)
      obtain rfl := Option.some.inj h
      exact lq_out ⟨v31, ⟨rfl, rfl, rfl, rfl, rfl, trivial⟩, HS⟩
    refine ex_if_t rfl (decide_eq_true c34) ?_
    refine ex_skip (nx ?_)
    refine ex_seq ?_
    refine ex_block ?_
    refine ex_seq ?_
    refine ex_region ?_
    replace h := grd_some h; obtain ⟨g35, h⟩ := h
    obtain ⟨_, q36, l37⟩ := r_s0.idx g35.1 g35.2
    obtain ⟨v38, v40, rfl, r39, r41⟩ := rd_K72 q36
    refine ro_lt (r_ia (r_s0.sub HS.sub) sl24 g35.1 g35.2 rfl rfl) rfl ?_
    refine ro_lt (r_lda (l37.sub HS.sub) ag72 rfl rfl) rfl ?_
    refine ro_hy (o_alloc HS (cs := [.slice none 0 0, .slice none 0 0, iv 0, iv 0]) ze72 rfl) rfl ?_
    rintro _ w43 ⟨g42, rfl, hb, HS⟩
    refine ro_hy (o_str (off := 0) (vs := [v38, v40, iv ((((s.1.getD i32.toNat (([] : List Int), ([] : List Int), 0, 0)).2).2).1), iv ((((s.1.getD i32.toNat (([] : List Int), ([] : List Int), 0, 0)).2).2).2)]) (l' := [v38, v40, iv ((((s.1.getD i32.toNat (([] : List Int), ([] : List Int), 0, 0)).2).2).1), iv ((((s.1.getD i32.toNat (([] : List Int), ([] : List Int), 0, 0)).2).2).2)]) HS rfl rfl rfl st72 rfl rfl (pl (r39.sub HS.sub).pl (pl (r41.sub HS.sub).pl (pl rfl (pl rfl pl0)))) rfl) rfl ?_
    rintro _ w45 ⟨rfl, hk, HS⟩
    refine RO.nil (nx ?_)
    refine ex_dr (Mm H5 [1, 2]) (fun _ => True) [0, 1, 0, 4, 12, 31, 63, 127] [3, 4, 5, 7] (.op 0 (.op 1 (.op 2 (.op 3 (.op 4 (.op 5 (.op 6 (.op 7 .nil)))))))) mix (by kernel_rfl) (by kernel_rfl) ?_
    intro w47 hw hb; have HS := HS.ext hb; clear hw hb
    refine RT.lt rfl rfl rfl rfl (fun w' k => r_fa (HS.boxAt 2 rfl) fd27_0 rfl) ?_
    refine RT.lt rfl rfl rfl rfl (fun w' k => r_ld (((HS.boxAt 2 rfl).seg 0 1).k0 (Sub.refl _) (k.kp.none rfl)) sc24 rfl) ?_
    refine RT.lt rfl rfl rfl rfl (fun w' k => r_lda ((HS.boxAt 0 rfl).k0 (Sub.refl _) (k.kp.none rfl)) ag72 rfl rfl) ?_
    replace h := bind_some h; obtain ⟨y48, e49, h⟩ := h
    refine RT.hy rfl rfl rfl rfl rfl (o_c1 (vs := [.agg #[v38, v40, iv ((((s.1.getD i32.toNat (([] : List Int), ([] : List Int), 0, 0)).2).2).1), iv ((((s.1.getD i32.toNat (([] : List Int), ([] : List Int), 0, 0)).2).2).2)]]) HS (c_Node_own (r39.sub HS.sub) (r41.sub HS.sub) e49) cf93 rfl) (fun _ _ ⟨_, _, hb, _⟩ => km_below hb (fun _ => trivial)) ?_
    rintro _ w50 ⟨cs51, rfl, hb, HS⟩
    replace HS := st_K72 HS
    obtain ⟨v53, v55, rfl, HS⟩ := HS
    refine RT.hy rfl rfl rfl rfl rfl (o_bsv HS (cs := [v53, v55, iv y48.2.2.1, iv y48.2.2.2]) sl24 zz72 (vs := [.agg #[v53, v55, iv y48.2.2.1, iv y48.2.2.2]]) rfl rfl (vc rfl vc0) rfl rfl (by decide)) (fun _ _ ⟨_, _, hb, _⟩ => km_below hb (fun _ => trivial)) ?_
    rintro _ w57 ⟨g56, rfl, hb, HS⟩
    replace h := grd_some h; obtain ⟨g59, h⟩ := h
    refine RT.hy rfl rfl rfl rfl rfl (o_app1 ((((((((HS.add (t := (.int .i64)) (x := y48.2.2.2) rfl rfl).add (t := (.int .i64)) (x := y48.2.2.1) rfl rfl).join).sel (G := [_, _, _, _, _, _, _, _, _]) [3] 0 rfl).join).sel (G := [_, _, _, _, _, _, _, _]) [2] 0 rfl).join).sel (G := [_, _, _, _, _, _, _]) [3] 0 rfl) rfl rfl sl24 zz72 g59) (fun _ _ ⟨HS2, hk⟩ => km_st HS (Sub.refl _) (hk _ fun _ h => h) (own_none ((((((((HS.add (t := (.int .i64)) (x := y48.2.2.2) rfl rfl).add (t := (.int .i64)) (x := y48.2.2.1) rfl rfl).join).sel (G := [_, _, _, _, _, _, _, _, _]) [3] 0 rfl).join).sel (G := [_, _, _, _, _, _, _, _]) [2] 0 rfl).join).sel (G := [_, _, _, _, _, _, _]) [3] 0 rfl)) (by kernel_rfl) (fun _ => trivial)) ?_
    rintro v66 w67 ⟨HS, hk⟩
    refine RT.lt rfl rfl rfl rfl (fun w' k => r_fa (HS.boxAt 2 rfl) fd27_0 rfl) ?_
    refine RT.hy rfl rfl rfl rfl rfl (o_str (off := 0) (vs := [v66]) (l' := [v66, v14]) (HS.sel (G := [_, _, _, _, _]) [2] 0 rfl) rfl rfl (HS.rd 0 rfl).vc st24 rfl rfl (pl (HS.rd 0 rfl).pl pl0) rfl) (fun _ _ ⟨_, hk, HS2⟩ => km_st HS (Sub.refl _) (hk (fun b => b = g15) rfl) (fun b hb => hb ▸ bx_none (HS.sel (G := [_, _, _, _, _]) [2] 0 rfl)) (by kernel_rfl) (fun _ => trivial)) ?_
    rintro _ w69 ⟨rfl, hk, HS⟩
    refine RT.nil (blk_nx (nx ?_))
    refine ex_region ?_
    refine ro_lt (r_addw rfl rfl) rfl ?_
    refine ro_lt (r_mv (v := iv (wi (i32 + 1))) rfl) rfl ?_
    refine RO.nil ?_
    obtain rfl := Option.some.inj h
    exact lq_go ⟨v66, ⟨rfl, rfl, rfl, rfl, rfl, trivial⟩, (HS.sel (G := [_, _, _, _]) [1, 0, 1, 1] 1 rfl)⟩
  rintro s' w74 ⟨v31, hs_, HS⟩
  rw [has_put hs_]; clear hs_
  refine (nx ?_)
  refine ex_seq ?_
  refine ex_region ?_
  refine ro_lt (r_lda (HS.boxAt 1 rfl) ag27 rfl rfl) rfl ?_
  refine ro_hy (o_str (off := 0) (vs := [v31, v14]) (l' := [v31, v14]) (HS.sel (G := [_, _, _, _]) [3] 0 rfl) rfl rfl rfl st27 rfl rfl (pl (HS.rd 0 rfl).pl (pl (HS.rd 2 rfl).pl pl0)) rfl) rfl ?_
  rintro _ w76 ⟨rfl, hk, HS⟩
  refine RO.nil (nx ?_)
  obtain rfl := Option.some.inj h
  refine ex_ret ?_
  exact ret1 (.inr rfl) rfl (rv_box HS (i := 0) rfl rfl ag27 rfl) (P1.of (((HS.sel (G := [_, _, _, _]) [3] 0 rfl).sel (G := [_, _, _, _]) [2] 0 rfl).join) hs)
theorem c_impl_sharpener_null {w : World} {H : Hp} {FR : List Ob} {g_c : Nat} {v_c_Nodes : Value} {n_c : Nat} {sh_c : Shp} {c_Nodes : List (List Int × List Int × Int × Int)} {v_c_Next : Value} {c_Next : List Int} {c_vars : Int} {c_changed : Bool} {c_bad : Bool} {z : Int} (HS : St w H w (.bx g_c 95 [v_c_Nodes, v_c_Next, iv c_vars, .bool c_changed, .bool c_bad] :: .pr (NS 72 3 n_c v_c_Nodes sh_c c_Nodes) :: .ow (.sl 3 (.int .i64)) c_Next [v_c_Next] :: FR)) {r : List (List Int × List Int × Int × Int) × List Int × Bool × Bool} (h : F_impl_sharpener_null n_c c_Nodes c_Next c_vars c_changed c_bad z = some r) : Calls Try.prog 131 [.pointer (some ⟨g_c, 0, none⟩), iv z].toArray w (((fun r => PS (.tuple #[]) fun w' => St w H w' (.bx g_c 95 [v_c_Nodes, v_c_Next, iv c_vars, .bool r.2.2.1, .bool r.2.2.2] :: .pr (NS 72 3 n_c v_c_Nodes sh_c r.1) :: .ow (.sl 3 (.int .i64)) r.2.1 [v_c_Next] :: FR)) : (List (List Int × List Int × Int × Int) × List Int × Bool × Bool) → Ending → World → Prop) r) := by
  unfold F_impl_sharpener_null at h
  refine calls_ex (n := 47) Try.func131 rfl Try.ntmps131 (Nat.le_of_ble_eq_true rfl) ?_
  refine ex_seq ?_
  refine ex_seq ?_
  refine ex_region ?_
  refine ro_lt (r_mv (v := .pointer (some ⟨g_c, 0, none⟩)) rfl) rfl ?_
  refine ro_lt (r_nc (HS.boxAt 0 rfl) rfl) rfl ?_
  refine ro_lt (r_fa (HS.boxAt 0 rfl) fd95_0 rfl) rfl ?_
  refine ro_lt (r_fa ((HS.boxAt 0 rfl).seg 0 2) fd27_0 rfl) rfl ?_
  refine ro_lt (r_ld (((HS.boxAt 0 rfl).seg 0 2).seg 0 1) sc24 rfl) rfl ?_
  have b4 := HS.nsBig 1 rfl
  refine ro_lt (r_lenn (m := 4) HS (k := 1) rfl sl24 rfl) rfl ?_
  refine ro_lt (r_mv (v := iv 0) rfl) rfl ?_
  refine RO.nil (nx ?_)
  replace h := bind_some h; obtain ⟨y21, e22, h⟩ := h
  refine ex_lbr (fun (st : Int) s' w' => Has s' [(0, .pointer (some ⟨g_c, 0, none⟩)), (1, iv z), (11, v_c_Nodes), (12, iv ((n_c : Int))), (13, iv st)] ∧ St w H w' (.bx g_c 95 [v_c_Nodes, v_c_Next, iv c_vars, .bool c_changed, .bool c_bad] :: .pr (NS 72 3 n_c v_c_Nodes sh_c c_Nodes) :: .ow (.sl 3 (.int .i64)) c_Next [v_c_Next] :: FR)) (fun r s' w' => FQ Try.prog Try.f131 47 (((fun r => PS (.tuple #[]) fun w' => St w H w' (.bx g_c 95 [v_c_Nodes, v_c_Next, iv c_vars, .bool r.2.2.1, .bool r.2.2.2] :: .pr (NS 72 3 n_c v_c_Nodes sh_c r.1) :: .ow (.sl 3 (.int .i64)) r.2.1 [v_c_Next] :: FR)) : (List (List Int × List Int × Int × Int) × List Int × Bool × Bool) → Ending → World → Prop) r) .ret s' w') e22 ⟨⟨rfl, rfl, rfl, rfl, rfl, trivial⟩, HS⟩ ?_ ?_
  · rintro i10 c' s' w11 ⟨hs_, HS⟩ h
    rw [has_put hs_]; clear hs_
    replace h : F_impl_sharpener_null_b1 n_c z c_Nodes c_Next c_changed c_bad i10 = some c' := h
    unfold F_impl_sharpener_null_b1 at h
    refine ex_seq ?_
    refine ex_region ?_
    refine ro_lt (r_lss rfl rfl) rfl ?_
    refine RO.nil (nx ?_)
    refine ex_seq ?_
    replace h := ite_some h; rcases h with ⟨c12, h⟩ | ⟨c12, h⟩
    rotate_left
    · refine ex_if_f rfl (decide_eq_false c12) ?_
      refine ex_exit (tq_exit ?_)
      obtain rfl := Option.some.inj h
      exact lq_out ⟨⟨rfl, rfl, rfl, rfl, rfl, trivial⟩, HS⟩
    refine ex_if_t rfl (decide_eq_true c12) ?_
    refine ex_skip (nx ?_)
    refine ex_seq ?_
    refine ex_block ?_
    refine ex_seq ?_
    refine ex_region ?_
    replace h := grd_some h; obtain ⟨g13, h⟩ := h
    refine ro_lt (r_ian HS (k := 1) rfl sl24 g13.1 g13.2 rfl rfl) rfl ?_
    refine ro_lt (r_lda (cs := [(sh_c i10.toNat).1, (sh_c i10.toNat).2, iv ((c_Nodes.getD i10.toNat dN).2.2.1), iv ((c_Nodes.getD i10.toNat dN).2.2.2)]) (HS.nsAt 1 rfl (i := i10.toNat) (by omega)) ag72 rfl rfl) rfl ?_
    refine ro_hy (o_alloc HS (cs := [.slice none 0 0, .slice none 0 0, iv 0, iv 0]) ze72 rfl) rfl ?_
    rintro _ w15 ⟨g14, rfl, hb, HS⟩
    refine ro_hy (o_str (off := 0) (vs := [(sh_c i10.toNat).1, (sh_c i10.toNat).2, iv ((c_Nodes.getD i10.toNat dN).2.2.1), iv ((c_Nodes.getD i10.toNat dN).2.2.2)]) (l' := [(sh_c i10.toNat).1, (sh_c i10.toNat).2, iv ((c_Nodes.getD i10.toNat dN).2.2.1), iv ((c_Nodes.getD i10.toNat dN).2.2.2)]) HS rfl rfl rfl st72 rfl rfl (pl (HS.nsR1 2 rfl (i := i10.toNat) (by omega)).pl (pl (HS.nsR2 2 rfl (i := i10.toNat) (by omega)).pl (pl rfl (pl rfl pl0)))) rfl) rfl ?_
    rintro _ w17 ⟨rfl, hk, HS⟩
    refine RO.nil (nx ?_)
    refine ex_seq ?_
    refine ex_region ?_
    refine ro_lt (r_fa (HS.boxAt 0 rfl) fd72_0 rfl) rfl ?_
    refine ro_lt (r_ld ((HS.boxAt 0 rfl).seg 0 1) sc25 rfl) rfl ?_
    refine ro_lt (r_mv (v := iv z) rfl) rfl ?_
    replace h := grd_some h; obtain ⟨g19, h⟩ := h
    refine ro_lt (r_ia (HS.nsR1 2 rfl (i := i10.toNat) (by omega)) sl25 g19.1 g19.2 rfl rfl) rfl ?_
    refine ro_lt (r_ld ((HS.nsR1 2 rfl (i := i10.toNat) (by omega)).int g19.1 g19.2) sc3 rfl) rfl ?_
    refine ro_lt (r_neq rfl rfl) rfl ?_
    refine RO.nil (nx ?_)
    replace h := ite_some h; rcases h with ⟨c20, h⟩ | ⟨c20, h⟩
    rotate_left
    · refine ex_if_t rfl (congrArg (!·) (decide_eq_false c20)) ?_
      obtain rfl := Option.some.inj h
      refine ex_ret (blk_ret (tq_ret (lq_ret ?_)))
      exact ret0 (.inr rfl) rfl ⟨rfl, (HS.sel (G := _ :: _ :: _ :: FR) [1, 1, 1] 1 rfl)⟩
    refine ex_if_f rfl (congrArg (!·) (decide_eq_true c20)) ?_
    refine ex_skip (blk_nx (nx ?_))
    refine ex_region ?_
    refine ro_lt (r_addw rfl rfl) rfl ?_
    refine ro_lt (r_mv (v := iv (wi (i10 + 1))) rfl) rfl ?_
    refine RO.nil ?_
    obtain rfl := Option.some.inj h
    exact lq_go ⟨⟨rfl, rfl, rfl, rfl, rfl, trivial⟩, (HS.sel (G := _ :: _ :: _ :: FR) [1, 1, 1] 1 rfl)⟩
  rcases y21 with r49 | y21
  · intro s' w' hR
    obtain rfl := Option.some.inj h
    exact (tq_ret hR)
  rintro s' w23 ⟨hs_, HS⟩
  rw [has_put hs_]; clear hs_
  refine (nx ?_)
  refine ex_seq ?_
  refine ex_region ?_
  refine ro_lt (r_mv (v := .pointer (some ⟨g_c, 0, none⟩)) rfl) rfl ?_
  refine ro_lt (r_nc (HS.boxAt 0 rfl) rfl) rfl ?_
  refine ro_lt (r_fa (HS.boxAt 0 rfl) fd95_0 rfl) rfl ?_
  refine ro_lt (r_fa ((HS.boxAt 0 rfl).seg 0 2) fd27_0 rfl) rfl ?_
  refine ro_lt (r_ld (((HS.boxAt 0 rfl).seg 0 2).seg 0 1) sc24 rfl) rfl ?_
  refine ro_lt (r_lenn (m := 4) HS (k := 1) rfl sl24 rfl) rfl ?_
  refine ro_lt (r_mv (v := iv 0) rfl) rfl ?_
  refine RO.nil (nx ?_)
  replace h := bind_some h; obtain ⟨y45, e46, h⟩ := h
  refine ex_lbo (fun (st : Bool × Bool × (List (List Int × List Int × Int × Int)) × Int) s' w' => Has s' [(0, .pointer (some ⟨g_c, 0, none⟩)), (1, iv z), (29, iv ((n_c : Int))), (30, iv st.2.2.2)] ∧ St w H w' (.bx g_c 95 [v_c_Nodes, v_c_Next, iv c_vars, .bool st.1, .bool st.2.1] :: .pr (NS 72 3 n_c v_c_Nodes sh_c st.2.2.1) :: .ow (.sl 3 (.int .i64)) c_Next [v_c_Next] :: FR)) e46 ⟨⟨rfl, rfl, rfl, rfl, trivial⟩, HS⟩ ?_ ?_
  · rintro ⟨changed_33, bad_34, Nodes_35, i36⟩ c' s' w37 ⟨hs_, HS⟩ h
    rw [has_put hs_]; clear hs_
    try dsimp only at HS
    replace h : F_impl_sharpener_null_b2 n_c z changed_33 bad_34 Nodes_35 i36 = some c' := h
    unfold F_impl_sharpener_null_b2 at h
    refine ex_seq ?_
    refine ex_region ?_
    refine ro_lt (r_lss rfl rfl) rfl ?_
    refine RO.nil (nx ?_)
    refine ex_seq ?_
    replace h := ite_some h; rcases h with ⟨c38, h⟩ | ⟨c38, h⟩
    rotate_left
    · refine ex_if_f rfl (decide_eq_false c38) ?_
      refine ex_exit (tq_exit ?_)
      obtain rfl := Option.some.inj h
      exact lq_out ⟨⟨rfl, rfl, rfl, rfl, trivial⟩, HS⟩
    refine ex_if_t rfl (decide_eq_true c38) ?_
    refine ex_skip (nx ?_)
    refine ex_seq ?_
    refine ex_block ?_
    refine ex_seq ?_
    refine ex_region ?_
    refine ro_lt (r_mv (v := iv i36) rfl) rfl ?_
    refine ro_lt (r_as (v := iv i36) rfl) rfl ?_
    refine RO.nil (nx ?_)
    refine ex_region ?_
    refine ro_lt (r_mv (v := .pointer (some ⟨g_c, 0, none⟩)) rfl) rfl ?_
    refine ro_lt (r_mv (v := .pointer (some ⟨g_c, 0, none⟩)) rfl) rfl ?_
    refine ro_lt (r_nc (HS.boxAt 0 rfl) rfl) rfl ?_
    refine ro_lt (r_fa (HS.boxAt 0 rfl) fd95_0 rfl) rfl ?_
    refine ro_lt (r_fa ((HS.boxAt 0 rfl).seg 0 2) fd27_0 rfl) rfl ?_
    refine ro_lt (r_ld (((HS.boxAt 0 rfl).seg 0 2).seg 0 1) sc24 rfl) rfl ?_
    refine ro_lt (r_mv (v := iv i36) rfl) rfl ?_
    replace h := grd_some h; obtain ⟨g39, h⟩ := h
    refine ro_lt (r_ian HS (k := 1) rfl sl24 g39.1 g39.2 rfl rfl) rfl ?_
    refine ro_lt (r_fa (HS.nsAt 1 rfl (i := i36.toNat) (by omega)) fd72_1 rfl) rfl ?_
    refine ro_lt (r_ld (v := (sh_c i36.toNat).2) ((HS.nsAt 1 rfl (i := i36.toNat) (by omega)).seg 1 1) sc25 rfl) rfl ?_
    refine ro_lt (r_mv (v := iv z) rfl) rfl ?_
    replace h := grd_some h; obtain ⟨g40, h⟩ := h
    refine ro_lt (r_ia (HS.nsR2 1 rfl (i := i36.toNat) (by omega)) sl25 g40.1 g40.2 rfl rfl) rfl ?_
    replace h := bind_some h; obtain ⟨y42, e43, h⟩ := h
    refine ro_hy (o_cs (vs := [.pointer (some ⟨g_c, 0, none⟩), eaddr (sh_c i36.toNat).2 (z.toNat * 1), iv 0]) (c_set_r2 HS.self g39.1 g39.2 g40.1 g40.2 e43) cf161 rfl) rfl ?_
    rintro _ w41 ⟨rfl, HS2⟩
    replace HS := HS.from HS2
    refine RO.nil (blk_nx (nx ?_))
    refine ex_region ?_
    refine ro_lt (r_addw rfl rfl) rfl ?_
    refine ro_lt (r_mv (v := iv (wi (i36 + 1))) rfl) rfl ?_
    refine RO.nil ?_
    obtain rfl := Option.some.inj h
    exact lq_go ⟨⟨rfl, rfl, rfl, rfl, trivial⟩, HS⟩
  rintro s' w47 ⟨hs_, HS⟩
  rw [has_put hs_]; clear hs_
  obtain rfl := Option.some.inj h
  exact ret0 (.inl rfl) rfl ⟨rfl, HS⟩
theorem c_impl_sharpener_one {w : World} {H : Hp} {FR : List Ob} {g_c : Nat} {v_c_Nodes : Value} {n_c : Nat} {sh_c : Shp} {c_Nodes : List (List Int × List Int × Int × Int)} {v_c_Next : Value} {c_Next : List Int} {c_vars : Int} {c_changed : Bool} {c_bad : Bool} {u : Int} (HS : St w H w (.bx g_c 95 [v_c_Nodes, v_c_Next, iv c_vars, .bool c_changed, .bool c_bad] :: .pr (NS 72 3 n_c v_c_Nodes sh_c c_Nodes) :: .ow (.sl 3 (.int .i64)) c_Next [v_c_Next] :: FR)) {r : List (List Int × List Int × Int × Int) × List Int × Bool × Bool} (h : F_impl_sharpener_one n_c c_Nodes c_Next c_vars c_changed c_bad u = some r) : Calls Try.prog 162 [.pointer (some ⟨g_c, 0, none⟩), iv u].toArray w (((fun r => PS (.tuple #[]) fun w' => St w H w' (.bx g_c 95 [v_c_Nodes, v_c_Next, iv c_vars, .bool r.2.2.1, .bool r.2.2.2] :: .pr (NS 72 3 n_c v_c_Nodes sh_c r.1) :: .ow (.sl 3 (.int .i64)) r.2.1 [v_c_Next] :: FR)) : (List (List Int × List Int × Int × Int) × List Int × Bool × Bool) → Ending → World → Prop) r) := by
  unfold F_impl_sharpener_one at h
  refine calls_ex (n := 14) Try.func162 rfl Try.ntmps162 (Nat.le_of_ble_eq_true rfl) ?_
  refine ex_region ?_
  refine ro_lt (r_mv (v := .pointer (some ⟨g_c, 0, none⟩)) rfl) rfl ?_
  refine ro_lt (r_mv (v := .pointer (some ⟨g_c, 0, none⟩)) rfl) rfl ?_
  refine ro_lt (r_nc (HS.boxAt 0 rfl) rfl) rfl ?_
  refine ro_lt (r_fa (HS.boxAt 0 rfl) fd95_0 rfl) rfl ?_
  refine ro_lt (r_fa ((HS.boxAt 0 rfl).seg 0 2) fd27_0 rfl) rfl ?_
  refine ro_lt (r_ld (((HS.boxAt 0 rfl).seg 0 2).seg 0 1) sc24 rfl) rfl ?_
  refine ro_lt (r_mv (v := iv u) rfl) rfl ?_
  replace h := grd_some h; obtain ⟨g4, h⟩ := h
  refine ro_lt (r_ian HS (k := 1) rfl sl24 g4.1 g4.2 rfl rfl) rfl ?_
  refine ro_lt (r_fa (HS.nsAt 1 rfl (i := u.toNat) (by omega)) fd72_3 rfl) rfl ?_
  replace h := bind_some h; obtain ⟨y6, e7, h⟩ := h
  refine ro_hy (o_cs (vs := [.pointer (some ⟨g_c, 0, none⟩), padd (eaddr v_c_Nodes (u.toNat * 4)) 3, iv 0]) (c_set_f3 HS.self g4.1 g4.2 e7) cf161 rfl) rfl ?_
  rintro _ w5 ⟨rfl, HS2⟩
  replace HS := HS.from HS2
  refine RO.nil ?_
  obtain rfl := Option.some.inj h
  exact ret0 (.inl rfl) rfl ⟨rfl, HS⟩
theorem c_impl_sharpener_pointed {w : World} {H : Hp} {FR : List Ob} {g_c : Nat} {v_c_Nodes : Value} {n_c : Nat} {sh_c : Shp} {c_Nodes : List (List Int × List Int × Int × Int)} {v_c_Next : Value} {c_Next : List Int} {c_vars : Int} {c_changed : Bool} {c_bad : Bool} {z : Int} {u : Int} (HS : St w H w (.bx g_c 95 [v_c_Nodes, v_c_Next, iv c_vars, .bool c_changed, .bool c_bad] :: .pr (NS 72 3 n_c v_c_Nodes sh_c c_Nodes) :: .ow (.sl 3 (.int .i64)) c_Next [v_c_Next] :: FR)) {r : List (List Int × List Int × Int × Int) × List Int × Bool × Bool} (h : F_impl_sharpener_pointed n_c c_Nodes c_Next c_vars c_changed c_bad z u = some r) : Calls Try.prog 132 [.pointer (some ⟨g_c, 0, none⟩), iv z, iv u].toArray w (((fun r => PS (.tuple #[]) fun w' => St w H w' (.bx g_c 95 [v_c_Nodes, v_c_Next, iv c_vars, .bool r.2.2.1, .bool r.2.2.2] :: .pr (NS 72 3 n_c v_c_Nodes sh_c r.1) :: .ow (.sl 3 (.int .i64)) r.2.1 [v_c_Next] :: FR)) : (List (List Int × List Int × Int × Int) × List Int × Bool × Bool) → Ending → World → Prop) r) := by
  unfold F_impl_sharpener_pointed at h
  refine calls_ex (n := 62) Try.func132 rfl Try.ntmps132 (Nat.le_of_ble_eq_true rfl) ?_
  refine ex_seq ?_
  refine ex_seq ?_
  refine ex_region ?_
  refine ro_lt (r_mv (v := .pointer (some ⟨g_c, 0, none⟩)) rfl) rfl ?_
  refine ro_lt (r_nc (HS.boxAt 0 rfl) rfl) rfl ?_
  refine ro_lt (r_fa (HS.boxAt 0 rfl) fd95_0 rfl) rfl ?_
  refine ro_lt (r_fa ((HS.boxAt 0 rfl).seg 0 2) fd27_0 rfl) rfl ?_
  refine ro_lt (r_ld (((HS.boxAt 0 rfl).seg 0 2).seg 0 1) sc24 rfl) rfl ?_
  refine ro_lt (r_mv (v := iv u) rfl) rfl ?_
  replace h := grd_some h; obtain ⟨g4, h⟩ := h
  refine ro_lt (r_ian HS (k := 1) rfl sl24 g4.1 g4.2 rfl rfl) rfl ?_
  refine ro_lt (r_fa (HS.nsAt 1 rfl (i := u.toNat) (by omega)) fd72_0 rfl) rfl ?_
  refine ro_lt (r_ld (v := (sh_c u.toNat).1) ((HS.nsAt 1 rfl (i := u.toNat) (by omega)).seg 0 1) sc25 rfl) rfl ?_
  refine ro_lt (r_mv (v := iv z) rfl) rfl ?_
  replace h := grd_some h; obtain ⟨g5, h⟩ := h
  refine ro_lt (r_ia (HS.nsR1 1 rfl (i := u.toNat) (by omega)) sl25 g5.1 g5.2 rfl rfl) rfl ?_
  refine ro_lt (r_ld ((HS.nsR1 1 rfl (i := u.toNat) (by omega)).int g5.1 g5.2) sc3 rfl) rfl ?_
  refine ro_lt (r_neq rfl rfl) rfl ?_
  refine RO.nil (nx ?_)
  replace h := ite_some h; rcases h with ⟨c6, h⟩ | ⟨c6, h⟩
  rotate_left
  · refine ex_if_t rfl (congrArg (!·) (decide_eq_false c6)) ?_
    obtain rfl := Option.some.inj h
    refine ex_ret (tq_ret ?_)
    exact ret0 (.inr rfl) rfl ⟨rfl, HS⟩
  refine ex_if_f rfl (congrArg (!·) (decide_eq_true c6)) ?_
  refine ex_skip (nx ?_)
  refine ex_seq ?_
  refine ex_region ?_
  refine ro_lt (r_mv (v := .pointer (some ⟨g_c, 0, none⟩)) rfl) rfl ?_
  refine ro_lt (r_mv (v := iv u) rfl) rfl ?_
  replace h := bind_some h; obtain ⟨y7, e8, h⟩ := h
  refine ro_hy (o_cs (vs := [.pointer (some ⟨g_c, 0, none⟩), iv u]) (c_impl_sharpener_one HS.self e8) cf162 rfl) rfl ?_
  rintro _ w9 ⟨rfl, HS2⟩
  replace HS := HS.from HS2
  refine RO.nil (nx ?_)
  refine ex_seq ?_
  refine ex_seq ?_
  refine ex_region ?_
  refine ro_lt (r_mv (v := .pointer (some ⟨g_c, 0, none⟩)) rfl) rfl ?_
  refine ro_lt (r_nc (HS.boxAt 0 rfl) rfl) rfl ?_
  refine ro_lt (r_fa (HS.boxAt 0 rfl) fd95_0 rfl) rfl ?_
  refine ro_lt (r_fa ((HS.boxAt 0 rfl).seg 0 2) fd27_0 rfl) rfl ?_
  refine ro_lt (r_ld (((HS.boxAt 0 rfl).seg 0 2).seg 0 1) sc24 rfl) rfl ?_
  have b11 := HS.nsBig 1 rfl
  refine ro_lt (r_lenn (m := 4) HS (k := 1) rfl sl24 rfl) rfl ?_
  refine ro_lt (r_mv (v := iv 0) rfl) rfl ?_
  refine RO.nil (nx ?_)
  replace h := bind_some h; obtain ⟨y33, e34, h⟩ := h
  refine ex_lbo (fun (st : Bool × Bool × (List (List Int × List Int × Int × Int)) × Int) s' w' => Has s' [(0, .pointer (some ⟨g_c, 0, none⟩)), (1, iv z), (2, iv u), (28, iv ((n_c : Int))), (29, iv st.2.2.2)] ∧ St w H w' (.bx g_c 95 [v_c_Nodes, v_c_Next, iv c_vars, .bool st.1, .bool st.2.1] :: .pr (NS 72 3 n_c v_c_Nodes sh_c st.2.2.1) :: .ow (.sl 3 (.int .i64)) y7.2.1 [v_c_Next] :: FR)) e34 ⟨⟨rfl, rfl, rfl, rfl, rfl, trivial⟩, HS⟩ ?_ ?_
  · rintro ⟨changed_20, bad_21, Nodes_22, i23⟩ c' s' w24 ⟨hs_, HS⟩ h
    rw [has_put hs_]; clear hs_
    try dsimp only at HS
    replace h : F_impl_sharpener_pointed_b1 n_c u z changed_20 bad_21 Nodes_22 i23 = some c' := h
    unfold F_impl_sharpener_pointed_b1 at h
    refine ex_seq ?_
    refine ex_region ?_
    refine ro_lt (r_lss rfl rfl) rfl ?_
    refine RO.nil (nx ?_)
    refine ex_seq ?_
    replace h := ite_some h; rcases h with ⟨c25, h⟩ | ⟨c25, h⟩
    rotate_left
    · refine ex_if_f rfl (decide_eq_false c25) ?_
      refine ex_exit (tq_exit ?_)
      obtain rfl := Option.some.inj h
      exact lq_out ⟨⟨rfl, rfl, rfl, rfl, rfl, trivial⟩, HS⟩
    refine ex_if_t rfl (decide_eq_true c25) ?_
    refine ex_skip (nx ?_)
    refine ex_seq ?_
    refine ex_block ?_
    refine ex_seq ?_
    refine ex_region ?_
    refine ro_lt (r_mv (v := iv i23) rfl) rfl ?_
    refine ro_lt (r_as (v := iv i23) rfl) rfl ?_
    refine RO.nil (nx ?_)
    refine ex_seq ?_
    refine ex_region ?_
    refine ro_lt (r_mv (v := iv i23) rfl) rfl ?_
    refine ro_lt (r_mv (v := iv u) rfl) rfl ?_
    refine ro_lt (r_neq rfl rfl) rfl ?_
    refine RO.nil (nx ?_)
    replace h := ite_some h; rcases h with ⟨c26, h⟩ | ⟨c26, h⟩
    · refine ex_if_f rfl (congrArg (!·) (decide_eq_true c26)) ?_
      refine ex_skip (blk_nx (nx ?_))
      refine ex_region ?_
      refine ro_lt (r_addw rfl rfl) rfl ?_
      refine ro_lt (r_mv (v := iv (wi (i23 + 1))) rfl) rfl ?_
      refine RO.nil ?_
      obtain rfl := Option.some.inj h
      exact lq_go ⟨⟨rfl, rfl, rfl, rfl, rfl, trivial⟩, HS⟩
    refine ex_if_t rfl (congrArg (!·) (decide_eq_false c26)) ?_
    refine ex_region ?_
    refine ro_lt (r_mv (v := .pointer (some ⟨g_c, 0, none⟩)) rfl) rfl ?_
    refine ro_lt (r_mv (v := .pointer (some ⟨g_c, 0, none⟩)) rfl) rfl ?_
    refine ro_lt (r_nc (HS.boxAt 0 rfl) rfl) rfl ?_
    refine ro_lt (r_fa (HS.boxAt 0 rfl) fd95_0 rfl) rfl ?_
    refine ro_lt (r_fa ((HS.boxAt 0 rfl).seg 0 2) fd27_0 rfl) rfl ?_
    refine ro_lt (r_ld (((HS.boxAt 0 rfl).seg 0 2).seg 0 1) sc24 rfl) rfl ?_
    refine ro_lt (r_mv (v := iv i23) rfl) rfl ?_
    replace h := grd_some h; obtain ⟨g27, h⟩ := h
    refine ro_lt (r_ian HS (k := 1) rfl sl24 g27.1 g27.2 rfl rfl) rfl ?_
    refine ro_lt (r_fa (HS.nsAt 1 rfl (i := i23.toNat) (by omega)) fd72_0 rfl) rfl ?_
    refine ro_lt (r_ld (v := (sh_c i23.toNat).1) ((HS.nsAt 1 rfl (i := i23.toNat) (by omega)).seg 0 1) sc25 rfl) rfl ?_
    refine ro_lt (r_mv (v := iv z) rfl) rfl ?_
    replace h := grd_some h; obtain ⟨g28, h⟩ := h
    refine ro_lt (r_ia (HS.nsR1 1 rfl (i := i23.toNat) (by omega)) sl25 g28.1 g28.2 rfl rfl) rfl ?_
    replace h := bind_some h; obtain ⟨y30, e31, h⟩ := h
    refine ro_hy (o_cs (vs := [.pointer (some ⟨g_c, 0, none⟩), eaddr (sh_c i23.toNat).1 (z.toNat * 1), iv 0]) (c_set_r1 HS.self g27.1 g27.2 g28.1 g28.2 e31) cf161 rfl) rfl ?_
    rintro _ w29 ⟨rfl, HS2⟩
    replace HS := HS.from HS2
    refine RO.nil (blk_nx (nx ?_))
    refine ex_region ?_
    refine ro_lt (r_addw rfl rfl) rfl ?_
    refine ro_lt (r_mv (v := iv (wi (i23 + 1))) rfl) rfl ?_
    refine RO.nil ?_
    obtain rfl := Option.some.inj h
    exact lq_go ⟨⟨rfl, rfl, rfl, rfl, rfl, trivial⟩, HS⟩
  rintro s' w35 ⟨hs_, HS⟩
  rw [has_put hs_]; clear hs_
  refine (nx ?_)
  refine ex_region ?_
  refine ro_lt (r_mv (v := .pointer (some ⟨g_c, 0, none⟩)) rfl) rfl ?_
  refine ro_lt (r_mv (v := .pointer (some ⟨g_c, 0, none⟩)) rfl) rfl ?_
  refine ro_lt (r_nc (HS.boxAt 0 rfl) rfl) rfl ?_
  refine ro_lt (r_fa (HS.boxAt 0 rfl) fd95_0 rfl) rfl ?_
  refine ro_lt (r_fa ((HS.boxAt 0 rfl).seg 0 2) fd27_0 rfl) rfl ?_
  refine ro_lt (r_ld (((HS.boxAt 0 rfl).seg 0 2).seg 0 1) sc24 rfl) rfl ?_
  refine ro_lt (r_mv (v := iv u) rfl) rfl ?_
  refine ro_lt (r_ian HS (k := 1) rfl sl24 g4.1 g4.2 rfl rfl) rfl ?_
  refine ro_lt (r_fa (HS.nsAt 1 rfl (i := u.toNat) (by omega)) fd72_1 rfl) rfl ?_
  refine ro_lt (r_ld (v := (sh_c u.toNat).2) ((HS.nsAt 1 rfl (i := u.toNat) (by omega)).seg 1 1) sc25 rfl) rfl ?_
  refine ro_lt (r_mv (v := iv z) rfl) rfl ?_
  replace h := grd_some h; obtain ⟨g37, h⟩ := h
  refine ro_lt (r_ia (HS.nsR2 1 rfl (i := u.toNat) (by omega)) sl25 g37.1 g37.2 rfl rfl) rfl ?_
  replace h := bind_some h; obtain ⟨y39, e40, h⟩ := h
  refine ro_hy (o_cs (vs := [.pointer (some ⟨g_c, 0, none⟩), eaddr (sh_c u.toNat).2 (z.toNat * 1), iv 2]) (c_set_r2 HS.self g4.1 g4.2 g37.1 g37.2 e40) cf161 rfl) rfl ?_
  rintro _ w38 ⟨rfl, HS2⟩
  replace HS := HS.from HS2
  refine RO.nil ?_
  obtain rfl := Option.some.inj h
  exact ret0 (.inl rfl) rfl ⟨rfl, HS⟩
theorem c_impl_sharpener_next {w : World} {H : Hp} {FR : List Ob} {g_c : Nat} {v_c_Nodes : Value} {n_c : Nat} {sh_c : Shp} {c_Nodes : List (List Int × List Int × Int × Int)} {v_c_Next : Value} {c_Next : List Int} {c_vars : Int} {c_changed : Bool} {c_bad : Bool} {u : Int} {v : Int} (HS : St w H w (.bx g_c 95 [v_c_Nodes, v_c_Next, iv c_vars, .bool c_changed, .bool c_bad] :: .pr (NS 72 3 n_c v_c_Nodes sh_c c_Nodes) :: .ow (.sl 3 (.int .i64)) c_Next [v_c_Next] :: FR)) {r : Int × List (List Int × List Int × Int × Int) × List Int × Bool × Bool} (h : F_impl_sharpener_next n_c c_Nodes c_Next c_vars c_changed c_bad u v = some r) : Calls Try.prog 163 [.pointer (some ⟨g_c, 0, none⟩), iv u, iv v].toArray w (((fun r => PS ((eaddr v_c_Next (r.1.toNat * 1))) fun w' => St w H w' (.bx g_c 95 [v_c_Nodes, v_c_Next, iv c_vars, .bool r.2.2.2.1, .bool r.2.2.2.2] :: .pr (NS 72 3 n_c v_c_Nodes sh_c r.2.1) :: .ow (.sl 3 (.int .i64)) r.2.2.1 [v_c_Next] :: FR)) : (Int × List (List Int × List Int × Int × Int) × List Int × Bool × Bool) → Ending → World → Prop) r) := by
  unfold F_impl_sharpener_next at h
  refine calls_ex (n := 23) Try.func163 rfl Try.ntmps163 (Nat.le_of_ble_eq_true rfl) ?_
  refine ex_seq ?_
  refine ex_region ?_
  refine ro_lt (r_as rfl) rfl ?_
  refine RO.nil (nx ?_)
  refine ex_seq ?_
  refine ex_dr (Mm H []) (Phi g_c (fun (a : Bool × Bool) => [v_c_Nodes, v_c_Next, iv c_vars, .bool a.1, .bool a.2]) v_c_Nodes n_c sh_c) [0, 1, 3, 7, 15, 0, 0, 64, 192, 448, 960, 1984, 4064, 0, 16352, 32767, 65535] [] (.op 0 (.op 1 (.op 2 (.op 3 (.op 4 (.op 5 (.op 6 (.op 7 (.op 8 (.op 9 (.op 10 (.op 11 (.op 12 (.op 13 (.op 14 (.op 15 (.op 16 .nil))))))))))))))))) mix (by kernel_rfl) (by kernel_rfl) ?_
  intro w4 hw hb; have HS := HS.ext hb; clear hw hb
  refine RT.lt rfl rfl rfl rfl (fun w' k => r_mv (v := .pointer (some ⟨g_c, 0, none⟩)) rfl) ?_
  refine RT.lt rfl rfl rfl rfl (fun w' k => r_nc (HS.boxAt 0 rfl) rfl) ?_
  refine RT.lt rfl rfl rfl rfl (fun w' k => r_fa (HS.boxAt 0 rfl) fd95_0 rfl) ?_
  refine RT.lt rfl rfl rfl rfl (fun w' k => r_fa ((HS.boxAt 0 rfl).seg 0 2) fd27_1 rfl) ?_
  refine RT.lt rfl rfl rfl rfl (fun w' k => r_ld (exGet (exSeg (exSeg (k.phi (Phi.of (f := (fun (a : Bool × Bool) => [v_c_Nodes, v_c_Next, iv c_vars, .bool a.1, .bool a.2])) (c_changed, c_bad) HS 0 1 rfl rfl)).1 0 2) 1 1) fun _ => rfl) sc25 rfl) ?_
  refine RT.lt rfl rfl rfl rfl (fun w' k => r_mv (v := iv u) rfl) ?_
  refine RT.lt rfl rfl rfl rfl (fun w' k => r_mv (v := .pointer (some ⟨g_c, 0, none⟩)) rfl) ?_
  refine RT.lt rfl rfl rfl rfl (fun w' k => r_nc (HS.boxAt 0 rfl) rfl) ?_
  refine RT.lt rfl rfl rfl rfl (fun w' k => r_fa (HS.boxAt 0 rfl) fd95_0 rfl) ?_
  refine RT.lt rfl rfl rfl rfl (fun w' k => r_fa ((HS.boxAt 0 rfl).seg 0 2) fd27_0 rfl) ?_
  refine RT.lt rfl rfl rfl rfl (fun w' k => r_ld (exGet (exSeg (exSeg (k.phi (Phi.of (f := (fun (a : Bool × Bool) => [v_c_Nodes, v_c_Next, iv c_vars, .bool a.1, .bool a.2])) (c_changed, c_bad) HS 0 1 rfl rfl)).1 0 2) 0 1) fun _ => rfl) sc24 rfl) ?_
  have b5 := HS.nsBig 1 rfl
  refine RT.lt rfl rfl rfl rfl (fun w' k => r_lenn (m := 4) HS (k := 1) rfl sl24 rfl) ?_
  refine RT.lt rfl rfl rfl rfl (fun w' k => r_mulw rfl rfl) ?_
  refine RT.lt rfl rfl rfl rfl (fun w' k => r_mv (v := iv v) rfl) ?_
  refine RT.lt rfl rfl rfl rfl (fun w' k => r_addw rfl rfl) ?_
  replace h := grd_some h; obtain ⟨g6, h⟩ := h
  refine RT.lt rfl rfl rfl rfl (fun w' k => r_ia (HS.rd 2 rfl) sl25 g6.1 g6.2 rfl rfl) ?_
  refine RT.lt rfl rfl rfl rfl (fun w' k => r_as (v := (eaddr v_c_Next ((wi ((wi (u * (n_c : Int))) + v)).toNat * 1))) rfl) ?_
  refine RT.nil (nx ?_)
  obtain rfl := Option.some.inj h
  refine ex_ret ?_
  exact ret1 (.inr rfl) rfl rfl ⟨rfl, HS⟩
theorem c_Str_isNode {w : World} {s : (List (List Int × List Int × Int × Int)) × List Int} {v_s0 : Value} {v_s1 : Value} {i : Int} (r_s0 : Rd (.sl 72 (.prod (.sl 3 (.int .i64)) (.prod (.sl 3 (.int .i64)) (.prod (.int .i64) (.int .i64))))) (hp w) s.1 [v_s0]) (r_s1 : Rd (.sl 3 (.int .i64)) (hp w) s.2 [v_s1]) {r : Bool} (h : F_Str_isNode s i = some r) : Calls Try.prog 105 [.agg #[v_s0, v_s1], iv i].toArray w (P1 .bool w r) := by
  unfold F_Str_isNode at h
  have HS := St.init w
  have hs := Sub.refl (hp w)
  refine calls_ex (n := 11) Try.func105 rfl Try.ntmps105 (Nat.le_of_ble_eq_true rfl) ?_
  refine ex_seq ?_
  refine ex_region ?_
  refine ro_hy (o_boxz HS (cs := [v_s0, v_s1]) rfl rfl) rfl ?_
  rintro _ w2 ⟨g1, H5, rfl, q3, l4, hb, HS⟩
  replace r_s0 := r_s0.sub q3
  replace r_s1 := r_s1.sub q3
  replace hs := hs.trans q3
  refine ro_lt (r_as (v := .bool false) rfl) rfl ?_
  refine RO.nil (nx ?_)
  refine ex_seq ?_
  refine ex_region ?_
  refine ro_lt (r_mv (v := iv i) rfl) rfl ?_
  refine ro_lt (r_fa (l4.sub HS.sub) fd27_0 rfl) rfl ?_
  refine ro_lt (r_ld ((l4.seg 0 1).sub HS.sub) sc24 rfl) rfl ?_
  have b6 := (r_s0.sub HS.sub).big
  refine ro_lt (r_len (n := 4) (r_s0.sub HS.sub) sl24 rfl) rfl ?_
  refine ro_lt (r_sub rfl rfl (by omega)) rfl ?_
  replace h := bind_some h; obtain ⟨y7, e8, h⟩ := h
  refine ro_hy (o_cf (vs := [iv i, iv 0, iv ((s.1.length : Int) - 1)]) HS rfl (c_impl_within e8) cf99 rfl) rfl ?_
  rintro _ w9 ⟨rfl, hb, HS⟩
  refine ro_lt (r_as (v := .bool y7) rfl) rfl ?_
  refine RO.nil (nx ?_)
  obtain rfl := Option.some.inj h
  refine ex_ret ?_
  exact ret1 (.inr rfl) rfl rfl (P1.of_flat HS hs rfl)
theorem c_impl_sameNode {w : World} {s : (List (List Int × List Int × Int × Int)) × List Int} {v_s0 : Value} {v_s1 : Value} {i : Int} (r_s0 : Rd (.sl 72 (.prod (.sl 3 (.int .i64)) (.prod (.sl 3 (.int .i64)) (.prod (.int .i64) (.int .i64))))) (hp w) s.1 [v_s0]) (r_s1 : Rd (.sl 3 (.int .i64)) (hp w) s.2 [v_s1]) {r : Int} (h : F_impl_sameNode s i = some r) : Calls Try.prog 186 [.agg #[v_s0, v_s1], iv i].toArray w (P1 (.int .i64) w r) := by
  unfold F_impl_sameNode at h
  have HS := St.init w
  have hs := Sub.refl (hp w)
  refine calls_ex (n := 12) Try.func186 rfl Try.ntmps186 (Nat.le_of_ble_eq_true rfl) ?_
  refine ex_seq ?_
  refine ex_region ?_
  refine ro_hy (o_boxz HS (cs := [v_s0, v_s1]) rfl rfl) rfl ?_
  rintro _ w2 ⟨g1, H5, rfl, q3, l4, hb, HS⟩
  replace r_s0 := r_s0.sub q3
  replace r_s1 := r_s1.sub q3
  replace hs := hs.trans q3
  refine ro_lt (r_as (v := iv 0) rfl) rfl ?_
  refine RO.nil (nx ?_)
  refine ex_seq ?_
  refine ex_seq ?_
  refine ex_region ?_
  refine ro_lt (r_fa (l4.sub HS.sub) fd27_0 rfl) rfl ?_
  refine ro_lt (r_ld ((l4.seg 0 1).sub HS.sub) sc24 rfl) rfl ?_
  refine ro_lt (r_mv (v := iv i) rfl) rfl ?_
  replace h := grd_some h; obtain ⟨g6, h⟩ := h
  obtain ⟨_, q7, l8⟩ := r_s0.idx g6.1 g6.2
  obtain ⟨v9, v11, rfl, r10, r12⟩ := rd_K72 q7
  refine ro_lt (r_ia (r_s0.sub HS.sub) sl24 g6.1 g6.2 rfl rfl) rfl ?_
  refine ro_lt (r_fa (l8.sub HS.sub) fd72_3 rfl) rfl ?_
  refine ro_lt (r_ld ((l8.seg 3 1).sub HS.sub) sc3 rfl) rfl ?_
  refine ro_lt (r_eql rfl rfl) rfl ?_
  refine RO.nil (nx ?_)
  replace h := ite_some h; rcases h with ⟨c13, h⟩ | ⟨c13, h⟩
  · refine ex_if_t rfl (decide_eq_true c13) ?_
    refine ex_seq ?_
    refine ex_region ?_
    refine ro_lt (r_as (v := iv 2) rfl) rfl ?_
    refine RO.nil (nx ?_)
    obtain rfl := Option.some.inj h
    refine ex_ret (tq_ret ?_)
    exact ret1 (.inr rfl) rfl rfl (P1.of_flat HS hs rfl)
  refine ex_if_f rfl (decide_eq_false c13) ?_
  refine ex_skip (nx ?_)
  refine ex_seq ?_
  refine ex_region ?_
  refine ro_lt (r_as (v := iv 1) rfl) rfl ?_
  refine RO.nil (nx ?_)
  obtain rfl := Option.some.inj h
  refine ex_ret ?_
  exact ret1 (.inr rfl) rfl rfl (P1.of_flat HS hs rfl)
theorem c_impl_NextOf {w : World} {s : (List (List Int × List Int × Int × Int)) × List Int} {v_s0 : Value} {v_s1 : Value} {i : Int} {j : Int} (r_s0 : Rd (.sl 72 (.prod (.sl 3 (.int .i64)) (.prod (.sl 3 (.int .i64)) (.prod (.int .i64) (.int .i64))))) (hp w) s.1 [v_s0]) (r_s1 : Rd (.sl 3 (.int .i64)) (hp w) s.2 [v_s1]) {r : Int} (h : F_impl_NextOf s i j = some r) : Calls Try.prog 50 [.agg #[v_s0, v_s1], iv i, iv j].toArray w (P1 (.int .i64) w r) := by
  unfold F_impl_NextOf at h
  have HS := St.init w
  have hs := Sub.refl (hp w)
  refine calls_ex (n := 41) Try.func50 rfl Try.ntmps50 (Nat.le_of_ble_eq_true rfl) ?_
  refine ex_seq ?_
  refine ex_region ?_
  refine ro_hy (o_boxz HS (cs := [v_s0, v_s1]) rfl rfl) rfl ?_
  rintro _ w2 ⟨g1, H5, rfl, q3, l4, hb, HS⟩
  replace r_s0 := r_s0.sub q3
  replace r_s1 := r_s1.sub q3
  replace hs := hs.trans q3
  refine ro_lt (r_as (v := iv 0) rfl) rfl ?_
  refine RO.nil (nx ?_)
  refine ex_seq ?_
  refine ex_seq ?_
  refine ex_region ?_
  refine ro_lt (r_lda (l4.sub HS.sub) ag27 rfl rfl) rfl ?_
  refine ro_lt (r_mv (v := iv i) rfl) rfl ?_
  replace h := bind_some h; obtain ⟨y6, e7, h⟩ := h
  refine ro_hy (o_cf (vs := [.agg #[v_s0, v_s1], iv i]) HS rfl (c_Str_isNode (r_s0.sub HS.sub) (r_s1.sub HS.sub) e7) cf105 rfl) rfl ?_
  rintro _ w8 ⟨rfl, hb, HS⟩
  refine ro_lt (r_not rfl) rfl ?_
  refine ro_lt (r_mv (v := .bool ((!y6))) rfl) rfl ?_
  replace h := ite_some h; rcases h with ⟨c9, h⟩ | ⟨c9, h⟩
  rotate_left
  · refine ro_off (sb (congrArg (!·) (bf c9))) rfl rfl ?_
    refine ro_off (sb (congrArg (!·) (bf c9))) rfl rfl ?_
    refine ro_off (sb (congrArg (!·) (bf c9))) rfl rfl ?_
    refine ro_off (sb (congrArg (!·) (bf c9))) rfl rfl ?_
    refine ro_lt (r_pickt (v := .bool true) (congrArg (!·) (bf c9)) rfl rfl) rfl ?_
    refine ro_lt (r_mv (v := .bool true) rfl) rfl ?_
    refine ro_off (sb (rfl)) rfl rfl ?_
    refine ro_off (sb (rfl)) rfl rfl ?_
    refine ro_off (sb (rfl)) rfl rfl ?_
    refine ro_off (sb (rfl)) rfl rfl ?_
    refine ro_off (sb (rfl)) rfl rfl ?_
    refine ro_off (sb (rfl)) rfl rfl ?_
    refine ro_off (sb (rfl)) rfl rfl ?_
    refine ro_off (sb (rfl)) rfl rfl ?_
    refine ro_off (sb (rfl)) rfl rfl ?_
    refine ro_off (sb (rfl)) rfl rfl ?_
    refine ro_off (sb (rfl)) rfl rfl ?_
    refine ro_lt (r_pickt (v := .bool true) (rfl) rfl rfl) rfl ?_
    refine RO.nil (nx ?_)
    refine ex_if_t rfl (rfl) ?_
    refine ex_seq ?_
    refine ex_region ?_
    refine ro_lt (r_as (v := iv 1) rfl) rfl ?_
    refine RO.nil (nx ?_)
    obtain rfl := Option.some.inj h
    refine ex_ret (tq_ret ?_)
    exact ret1 (.inr rfl) rfl rfl (P1.of_flat HS hs rfl)
  refine ro_on (sb (congrArg (!·) (c9))) ?_
  refine ro_lt (r_lda (l4.sub HS.sub) ag27 rfl rfl) rfl ?_
  refine ro_on (sb (congrArg (!·) (c9))) ?_
  refine ro_lt (r_mv (v := iv j) rfl) rfl ?_
  replace h := bind_some h; obtain ⟨y10, e11, h⟩ := h
  refine ro_on (sb (congrArg (!·) (c9))) ?_
  refine ro_hy (o_cf (vs := [.agg #[v_s0, v_s1], iv j]) HS rfl (c_Str_isNode (r_s0.sub HS.sub) (r_s1.sub HS.sub) e11) cf105 rfl) rfl ?_
  rintro _ w12 ⟨rfl, hb, HS⟩
  refine ro_on (sb (congrArg (!·) (c9))) ?_
  refine ro_lt (r_not rfl) rfl ?_
  refine ro_lt (r_pickf (v := .bool ((!y10))) (congrArg (!·) (c9)) rfl rfl) rfl ?_
  refine ro_lt (r_mv (v := .bool ((!y10))) rfl) rfl ?_
  replace h := ite_some h; rcases h with ⟨c13, h⟩ | ⟨c13, h⟩
  rotate_left
  · refine ro_off (sb (congrArg (!·) (bf c13))) rfl rfl ?_
    refine ro_off (sb (congrArg (!·) (bf c13))) rfl rfl ?_
    refine ro_off (sb (congrArg (!·) (bf c13))) rfl rfl ?_
    refine ro_off (sb (congrArg (!·) (bf c13))) rfl rfl ?_
    refine ro_off (sb (congrArg (!·) (bf c13))) rfl rfl ?_
    refine ro_off (sb (congrArg (!·) (bf c13))) rfl rfl ?_
    refine ro_off (sb (congrArg (!·) (bf c13))) rfl rfl ?_
    refine ro_off (sb (congrArg (!·) (bf c13))) rfl rfl ?_
    refine ro_off (sb (congrArg (!·) (bf c13))) rfl rfl ?_
    refine ro_off (sb (congrArg (!·) (bf c13))) rfl rfl ?_
    refine ro_off (sb (congrArg (!·) (bf c13))) rfl rfl ?_
    refine ro_lt (r_pickt (v := .bool true) (congrArg (!·) (bf c13)) rfl rfl) rfl ?_
    refine RO.nil (nx ?_)
    refine ex_if_t rfl (rfl) ?_
    refine ex_seq ?_
    refine ex_region ?_
    refine ro_lt (r_as (v := iv 1) rfl) rfl ?_
    refine RO.nil (nx ?_)
    obtain rfl := Option.some.inj h
    refine ex_ret (tq_ret ?_)
    exact ret1 (.inr rfl) rfl rfl (P1.of_flat HS hs rfl)
  refine ro_on (sb (congrArg (!·) (c13))) ?_
  refine ro_lt (r_fa (l4.sub HS.sub) fd27_1 rfl) rfl ?_
  refine ro_on (sb (congrArg (!·) (c13))) ?_
  refine ro_lt (r_ld ((l4.seg 1 1).sub HS.sub) sc25 rfl) rfl ?_
  have b14 := (r_s1.sub HS.sub).big
  refine ro_on (sb (congrArg (!·) (c13))) ?_
  refine ro_lt (r_len (n := 1) (r_s1.sub HS.sub) sl25 rfl) rfl ?_
  refine ro_on (sb (congrArg (!·) (c13))) ?_
  refine ro_lt (r_fa (l4.sub HS.sub) fd27_0 rfl) rfl ?_
  refine ro_on (sb (congrArg (!·) (c13))) ?_
  refine ro_lt (r_ld ((l4.seg 0 1).sub HS.sub) sc24 rfl) rfl ?_
  have b15 := (r_s0.sub HS.sub).big
  refine ro_on (sb (congrArg (!·) (c13))) ?_
  refine ro_lt (r_len (n := 4) (r_s0.sub HS.sub) sl24 rfl) rfl ?_
  refine ro_on (sb (congrArg (!·) (c13))) ?_
  refine ro_lt (r_fa (l4.sub HS.sub) fd27_0 rfl) rfl ?_
  refine ro_on (sb (congrArg (!·) (c13))) ?_
  refine ro_lt (r_ld ((l4.seg 0 1).sub HS.sub) sc24 rfl) rfl ?_
  refine ro_on (sb (congrArg (!·) (c13))) ?_
  refine ro_lt (r_len (n := 4) (r_s0.sub HS.sub) sl24 rfl) rfl ?_
  refine ro_on (sb (congrArg (!·) (c13))) ?_
  refine ro_lt (r_mulw rfl rfl) rfl ?_
  refine ro_on (sb (congrArg (!·) (c13))) ?_
  refine ro_lt (r_neq rfl rfl) rfl ?_
  refine ro_lt (r_pickf (v := .bool ((!(decide ((s.2.length : Int) = wi ((s.1.length : Int) * (s.1.length : Int))))))) (congrArg (!·) (c13)) rfl rfl) rfl ?_
  refine RO.nil (nx ?_)
  replace h := ite_some h; rcases h with ⟨c16, h⟩ | ⟨c16, h⟩
  rotate_left
  · refine ex_if_t rfl (congrArg (!·) (decide_eq_false c16)) ?_
    refine ex_seq ?_
    refine ex_region ?_
    refine ro_lt (r_as (v := iv 1) rfl) rfl ?_
    refine RO.nil (nx ?_)
    obtain rfl := Option.some.inj h
    refine ex_ret (tq_ret ?_)
    exact ret1 (.inr rfl) rfl rfl (P1.of_flat HS hs rfl)
  refine ex_if_f rfl (congrArg (!·) (decide_eq_true c16)) ?_
  refine ex_skip (nx ?_)
  refine ex_seq ?_
  refine ex_region ?_
  refine ro_lt (r_fa (l4.sub HS.sub) fd27_1 rfl) rfl ?_
  refine ro_lt (r_ld ((l4.seg 1 1).sub HS.sub) sc25 rfl) rfl ?_
  refine ro_lt (r_mv (v := iv i) rfl) rfl ?_
  refine ro_lt (r_fa (l4.sub HS.sub) fd27_0 rfl) rfl ?_
  refine ro_lt (r_ld ((l4.seg 0 1).sub HS.sub) sc24 rfl) rfl ?_
  refine ro_lt (r_len (n := 4) (r_s0.sub HS.sub) sl24 rfl) rfl ?_
  refine ro_lt (r_mulw rfl rfl) rfl ?_
  refine ro_lt (r_mv (v := iv j) rfl) rfl ?_
  refine ro_lt (r_addw rfl rfl) rfl ?_
  replace h := grd_some h; obtain ⟨g17, h⟩ := h
  refine ro_lt (r_ia (r_s1.sub HS.sub) sl25 g17.1 g17.2 rfl rfl) rfl ?_
  refine ro_lt (r_ld ((r_s1.int g17.1 g17.2).sub HS.sub) sc3 rfl) rfl ?_
  refine ro_lt (r_as (v := iv (s.2.getD (wi ((wi (i * (s.1.length : Int))) + j)).toNat 0)) rfl) rfl ?_
  refine RO.nil (nx ?_)
  obtain rfl := Option.some.inj h
  refine ex_ret ?_
  exact ret1 (.inr rfl) rfl rfl (P1.of_flat HS hs rfl)
theorem c_impl_reaches {w : World} {s : (List (List Int × List Int × Int × Int)) × List Int} {v_s0 : Value} {v_s1 : Value} {i : Int} {j : Int} {least : Int} (r_s0 : Rd (.sl 72 (.prod (.sl 3 (.int .i64)) (.prod (.sl 3 (.int .i64)) (.prod (.int .i64) (.int .i64))))) (hp w) s.1 [v_s0]) (r_s1 : Rd (.sl 3 (.int .i64)) (hp w) s.2 [v_s1]) {r : Bool} (h : F_impl_reaches s i j least = some r) : Calls Try.prog 187 [.agg #[v_s0, v_s1], iv i, iv j, iv least].toArray w (P1 .bool w r) := by
  unfold F_impl_reaches at h
  have HS := St.init w
  have hs := Sub.refl (hp w)
  refine calls_ex (n := 56) Try.func187 rfl Try.ntmps187 (Nat.le_of_ble_eq_true rfl) ?_
  refine ex_seq ?_
  refine ex_region ?_
  refine ro_hy (o_boxz HS (cs := [v_s0, v_s1]) rfl rfl) rfl ?_
  rintro _ w2 ⟨g1, H5, rfl, q3, l4, hb, HS⟩
  replace r_s0 := r_s0.sub q3
  replace r_s1 := r_s1.sub q3
  replace hs := hs.trans q3
  refine ro_lt (r_as (v := .bool false) rfl) rfl ?_
  refine RO.nil (nx ?_)
  refine ex_seq ?_
  refine ex_region ?_
  refine ro_lt (r_fa (l4.sub HS.sub) fd27_0 rfl) rfl ?_
  refine ro_lt (r_ld ((l4.seg 0 1).sub HS.sub) sc24 rfl) rfl ?_
  have b6 := (r_s0.sub HS.sub).big
  refine ro_lt (r_len (n := 4) (r_s0.sub HS.sub) sl24 rfl) rfl ?_
  replace h := grd_some h; obtain ⟨g7, h⟩ := h
  refine ro_hy (o_mks (t := .bool) (n := ((s.1.length : Int)).toNat) HS (by rw [Int.toNat_of_nonneg (by omega)]; rfl) (by rw [Int.toNat_of_nonneg (by omega)]; rfl) sl168 mz4 (by unfold lim; omega)) rfl ?_
  rintro v8 w9 ⟨hb, HS⟩
  refine ro_lt (r_mv (v := iv i) rfl) rfl ?_
  refine ro_hy (o_bsv HS (cs := [iv i]) sl25 zz3 (vs := [iv i]) rfl rfl (vc rfl vc0) rfl rfl (by decide)) rfl ?_
  rintro _ w12 ⟨g11, rfl, hb, HS⟩
  replace HS := HS.lit (t := (.int .i64)) (xs := [i]) rfl (rdC_int (k := .i64) [i]) (Nat.le_of_ble_eq_true rfl)
  replace HS := HS.qi
  refine ro_lt (r_as (v := v8) rfl) rfl ?_
  refine ro_lt (r_as (v := (.slice (some ⟨g11, 0, none⟩) 1 1)) rfl) rfl ?_
  refine RO.nil (nx ?_)
  refine ex_seq ?_
  replace h := bind_some h; obtain ⟨y62, e63, h⟩ := h
  refine ex_lbr (fun (st : (List Bool) × (List Int)) s' w' => ∃ v18 : Value, ∃ v21 : Value, Has s' [(2, iv j), (3, iv least), (4, .pointer (some ⟨g1, 0, none⟩)), (8, .bool false), (9, v18), (10, v21)] ∧ St w H5 w' [.pr (QI 3 v21 st.2), .ow (.sl 4 .bool) st.1 [v18]]) (fun r s' w' => FQ Try.prog Try.f187 56 (P1 .bool w r) .ret s' w') e63 ⟨v8, (.slice (some ⟨g11, 0, none⟩) 1 1), ⟨rfl, rfl, rfl, rfl, rfl, rfl, trivial⟩, HS⟩ ?_ ?_
  · rintro ⟨seen_16, list_19⟩ c' s' w22 ⟨v18, v21, hs_, HS⟩ h
    rw [has_put hs_]; clear hs_
    try dsimp only at HS
    replace h : F_impl_reaches_b2 s least j seen_16 list_19 = some c' := h
    unfold F_impl_reaches_b2 at h
    refine ex_seq ?_
    refine ex_seq ?_
    refine ex_region ?_
    refine ro_lt (r_mv (v := v21) rfl) rfl ?_
    have b23 := (HS.qiRd 0 rfl).big
    refine ro_lt (r_len (n := 1) (HS.qiRd 0 rfl) sl25 rfl) rfl ?_
    refine ro_lt (r_gtr rfl rfl) rfl ?_
    refine RO.nil (nx ?_)
    replace h := ite_some h; rcases h with ⟨c24, h⟩ | ⟨c24, h⟩
    rotate_left
    · refine ex_if_f rfl (decide_eq_false c24) ?_
      refine ex_exit (tq_exit ?_)
      obtain rfl := Option.some.inj h
      exact lq_out ⟨v18, v21, ⟨rfl, rfl, rfl, rfl, rfl, rfl, trivial⟩, HS⟩
    refine ex_if_t rfl (decide_eq_true c24) ?_
    refine ex_skip (nx ?_)
    refine ex_block ?_
    refine ex_seq ?_
    refine ex_region ?_
    refine ro_lt (r_mv (v := v21) rfl) rfl ?_
    replace h := grd_some h; obtain ⟨g25, h⟩ := h
    refine ro_lt (r_ia (HS.qiRd 0 rfl) sl25 (by omega) g25 rfl rfl) rfl ?_
    refine ro_lt (r_ld ((HS.qiRd 0 rfl).int (by omega) g25) sc3 rfl) rfl ?_
    refine ro_lt (r_as (v := iv (list_19.getD (0 : Int).toNat 0)) rfl) rfl ?_
    refine RO.nil (nx ?_)
    refine ex_seq ?_
    refine ex_region ?_
    refine ro_lt (r_mv (v := v21) rfl) rfl ?_
    refine ro_hy (o_cutq HS (by omega) sl25 rfl) rfl ?_
    rintro v27 _ ⟨rfl, HS⟩
    refine ro_lt (r_as (v := v27) rfl) rfl ?_
    refine RO.nil (nx ?_)
    refine ex_seq ?_
    refine ex_region ?_
    refine ro_lt (r_fa (l4.sub HS.sub) fd27_0 rfl) rfl ?_
    refine ro_lt (r_ld ((l4.seg 0 1).sub HS.sub) sc24 rfl) rfl ?_
    refine ro_lt (r_len (n := 4) (r_s0.sub HS.sub) sl24 rfl) rfl ?_
    refine ro_lt (r_mv (v := iv 0) rfl) rfl ?_
    refine RO.nil (nx ?_)
    replace h := bind_some h; obtain ⟨y57, e58, h⟩ := h
    refine ex_lbr (fun (st : (List Bool) × (List Int) × Int) s' w' => ∃ v33 : Value, ∃ v36 : Value, Has s' [(2, iv j), (3, iv least), (4, .pointer (some ⟨g1, 0, none⟩)), (8, .bool false), (9, v33), (10, v36), (11, iv (list_19.getD (0 : Int).toNat 0)), (29, iv ((s.1.length : Int))), (30, iv st.2.2)] ∧ St w H5 w' [.pr (QI 3 v36 st.2.1), .ow (.sl 4 .bool) st.1 [v33]]) (fun r s' w' => FQ Try.prog Try.f187 56 (P1 .bool w r) .ret s' w') e58 ⟨v18, v27, ⟨rfl, rfl, rfl, rfl, rfl, rfl, rfl, rfl, rfl, trivial⟩, HS⟩ ?_ ?_
    · rintro ⟨seen_31, list_34, i37⟩ c' s' w38 ⟨v33, v36, hs_, HS⟩ h
      rw [has_put hs_]; clear hs_
      try dsimp only at HS
      replace h : F_impl_reaches_b1 s list_19 least j seen_31 list_34 i37 = some c' := h
      unfold F_impl_reaches_b1 at h
      refine ex_seq ?_
      refine ex_region ?_
      refine ro_lt (r_lss rfl rfl) rfl ?_
      refine RO.nil (nx ?_)
      refine ex_seq ?_
      replace h := ite_some h; rcases h with ⟨c39, h⟩ | ⟨c39, h⟩
      rotate_left
      · refine ex_if_f rfl (decide_eq_false c39) ?_
        refine ex_exit (tq_exit ?_)
        obtain rfl := Option.some.inj h
        exact lq_out ⟨v33, v36, ⟨rfl, rfl, rfl, rfl, rfl, rfl, rfl, rfl, rfl, trivial⟩, HS⟩
      refine ex_if_t rfl (decide_eq_true c39) ?_
      refine ex_skip (nx ?_)
      refine ex_seq ?_
      refine ex_block ?_
      refine ex_seq ?_
      refine ex_region ?_
      refine ro_lt (r_mv (v := iv i37) rfl) rfl ?_
      refine ro_lt (r_as (v := iv i37) rfl) rfl ?_
      refine RO.nil (nx ?_)
      refine ex_seq ?_
      refine ex_seq ?_
      refine ex_region ?_
      refine ro_lt (r_mv (v := v33) rfl) rfl ?_
      refine ro_lt (r_mv (v := iv i37) rfl) rfl ?_
      replace h := grd_some h; obtain ⟨g40, h⟩ := h
      refine ro_lt (r_ia (HS.rd 1 rfl) sl168 g40.1 g40.2 rfl rfl) rfl ?_
      refine ro_lt (r_ld ((HS.rd 1 rfl).boolE g40.1 g40.2) sc4 rfl) rfl ?_
      refine ro_lt (r_mv (v := .bool (seen_31.getD i37.toNat false)) rfl) rfl ?_
      replace h := ite_some h; rcases h with ⟨c41, h⟩ | ⟨c41, h⟩
      · refine ro_off (sb (c41)) rfl rfl ?_
        refine ro_off (sb (c41)) rfl rfl ?_
        refine ro_off (sb (c41)) rfl rfl ?_
        refine ro_off (sb (c41)) rfl rfl ?_
        refine ro_off (sb (c41)) rfl rfl ?_
        refine ro_off (sb (c41)) rfl rfl ?_
        refine ro_lt (r_pickt (v := .bool true) (c41) rfl rfl) rfl ?_
        refine RO.nil (nx ?_)
        refine ex_if_t rfl (rfl) ?_
        refine ex_exit (tq_exit (blk_exit (nx ?_)))
        refine ex_region ?_
        refine ro_lt (r_addw rfl rfl) rfl ?_
        refine ro_lt (r_mv (v := iv (wi (i37 + 1))) rfl) rfl ?_
        refine RO.nil ?_
        obtain rfl := Option.some.inj h
        exact lq_go ⟨v33, v36, ⟨rfl, rfl, rfl, rfl, rfl, rfl, rfl, rfl, rfl, trivial⟩, HS⟩
      refine ro_on (sb (bf c41)) ?_
      refine ro_lt (r_lda (l4.sub HS.sub) ag27 rfl rfl) rfl ?_
      refine ro_on (sb (bf c41)) ?_
      refine ro_lt (r_mv (v := iv (list_19.getD (0 : Int).toNat 0)) rfl) rfl ?_
      refine ro_on (sb (bf c41)) ?_
      refine ro_lt (r_mv (v := iv i37) rfl) rfl ?_
      replace h := bind_some h; obtain ⟨y42, e43, h⟩ := h
      refine ro_on (sb (bf c41)) ?_
      refine ro_hy (o_cf (vs := [.agg #[v_s0, v_s1], iv (list_19.getD (0 : Int).toNat 0), iv i37]) HS rfl (c_impl_NextOf (r_s0.sub HS.sub) (r_s1.sub HS.sub) e43) cf50 rfl) rfl ?_
      rintro _ w44 ⟨rfl, hb, HS⟩
      refine ro_on (sb (bf c41)) ?_
      refine ro_lt (r_mv (v := iv least) rfl) rfl ?_
      refine ro_on (sb (bf c41)) ?_
      refine ro_lt (r_lss rfl rfl) rfl ?_
      refine ro_lt (r_pickf (v := .bool ((decide (y42 < least)))) (bf c41) rfl rfl) rfl ?_
      refine RO.nil (nx ?_)
      replace h := ite_some h; rcases h with ⟨c45, h⟩ | ⟨c45, h⟩
      · refine ex_if_t rfl (decide_eq_true c45) ?_
        refine ex_exit (tq_exit (blk_exit (nx ?_)))
        refine ex_region ?_
        refine ro_lt (r_addw rfl rfl) rfl ?_
        refine ro_lt (r_mv (v := iv (wi (i37 + 1))) rfl) rfl ?_
        refine RO.nil ?_
        obtain rfl := Option.some.inj h
        exact lq_go ⟨v33, v36, ⟨rfl, rfl, rfl, rfl, rfl, rfl, rfl, rfl, rfl, trivial⟩, HS⟩
      refine ex_if_f rfl (decide_eq_false c45) ?_
      refine ex_skip (nx ?_)
      refine ex_seq ?_
      refine ex_seq ?_
      refine ex_region ?_
      refine ro_lt (r_mv (v := iv i37) rfl) rfl ?_
      refine ro_lt (r_mv (v := iv j) rfl) rfl ?_
      refine ro_lt (r_eql rfl rfl) rfl ?_
      refine RO.nil (nx ?_)
      replace h := ite_some h; rcases h with ⟨c46, h⟩ | ⟨c46, h⟩
      · refine ex_if_t rfl (decide_eq_true c46) ?_
        refine ex_seq ?_
        refine ex_region ?_
        refine ro_lt (r_as (v := .bool true) rfl) rfl ?_
        refine RO.nil (nx ?_)
        obtain rfl := Option.some.inj h
        refine ex_ret (tq_ret (blk_ret (tq_ret (lq_ret ?_))))
        exact ret1 (.inr rfl) rfl rfl (P1.of_flat HS hs rfl)
      refine ex_if_f rfl (decide_eq_false c46) ?_
      refine ex_skip (nx ?_)
      refine ex_seq ?_
      refine ex_region ?_
      refine ro_lt (r_mv (v := v33) rfl) rfl ?_
      refine ro_lt (r_mv (v := iv i37) rfl) rfl ?_
      refine ro_lt (r_ia (HS.rd 1 rfl) sl168 g40.1 g40.2 rfl rfl) rfl ?_
      refine ro_hy (o_set (x' := true) (HS.sel (G := [_, _]) [1] 0 rfl) rfl g40.1 g40.2 st4 rfl rfl) rfl ?_
      rintro _ w47 ⟨rfl, hk, HS⟩
      refine RO.nil (nx ?_)
      refine ex_region ?_
      refine ro_lt (r_mv (v := v36) rfl) rfl ?_
      refine ro_lt (r_mv (v := iv i37) rfl) rfl ?_
      refine ro_hy (o_bsv HS (cs := [iv i37]) sl25 zz3 (vs := [iv i37]) rfl rfl (vc rfl vc0) rfl rfl (by decide)) rfl ?_
      rintro _ w50 ⟨g49, rfl, hb, HS⟩
      replace h := grd_some h; obtain ⟨g52, h⟩ := h
      refine ro_hy (o_appq (HS.sel (G := [_, _, _]) [2] 0 rfl) rfl rfl sl25 zz3 g52) rfl ?_
      rintro v54 w55 ⟨HS, hk⟩
      refine ro_lt (r_as (v := v54) rfl) rfl ?_
      refine RO.nil (blk_nx (nx ?_))
      refine ex_region ?_
      refine ro_lt (r_addw rfl rfl) rfl ?_
      refine ro_lt (r_mv (v := iv (wi (i37 + 1))) rfl) rfl ?_
      refine RO.nil ?_
      obtain rfl := Option.some.inj h
      exact lq_go ⟨v33, v54, ⟨rfl, rfl, rfl, rfl, rfl, rfl, rfl, rfl, rfl, trivial⟩, HS⟩
    rcases y57 with r61 | y57
    · intro s' w' hR
      obtain rfl := Option.some.inj h
      exact (blk_ret (lq_ret hR))
    rintro s' w59 ⟨v33, v36, hs_, HS⟩
    rw [has_put hs_]; clear hs_
    refine (blk_nx ?_)
    obtain rfl := Option.some.inj h
    exact lq_go ⟨v33, v36, ⟨rfl, rfl, rfl, rfl, rfl, rfl, trivial⟩, HS⟩
  rcases y62 with r66 | y62
  · intro s' w' hR
    obtain rfl := Option.some.inj h
    exact (tq_ret hR)
  rintro s' w64 ⟨v18, v21, hs_, HS⟩
  rw [has_put hs_]; clear hs_
  refine (nx ?_)
  refine ex_seq ?_
  refine ex_region ?_
  refine ro_lt (r_as (v := .bool false) rfl) rfl ?_
  refine RO.nil (nx ?_)
  obtain rfl := Option.some.inj h
  refine ex_ret ?_
  exact ret1 (.inr rfl) rfl rfl (P1.of_flat HS hs rfl)
theorem c_impl_PathOf {w : World} {s : (List (List Int × List Int × Int × Int)) × List Int} {v_s0 : Value} {v_s1 : Value} {i : Int} {j : Int} (r_s0 : Rd (.sl 72 (.prod (.sl 3 (.int .i64)) (.prod (.sl 3 (.int .i64)) (.prod (.int .i64) (.int .i64))))) (hp w) s.1 [v_s0]) (r_s1 : Rd (.sl 3 (.int .i64)) (hp w) s.2 [v_s1]) {r : Int} (h : F_impl_PathOf s i j = some r) : Calls Try.prog 164 [.agg #[v_s0, v_s1], iv i, iv j].toArray w (P1 (.int .i64) w r) := by
  unfold F_impl_PathOf at h
  have HS := St.init w
  have hs := Sub.refl (hp w)
  refine calls_ex (n := 37) Try.func164 rfl Try.ntmps164 (Nat.le_of_ble_eq_true rfl) ?_
  refine ex_seq ?_
  refine ex_region ?_
  refine ro_hy (o_boxz HS (cs := [v_s0, v_s1]) rfl rfl) rfl ?_
  rintro _ w2 ⟨g1, H5, rfl, q3, l4, hb, HS⟩
  replace r_s0 := r_s0.sub q3
  replace r_s1 := r_s1.sub q3
  replace hs := hs.trans q3
  refine ro_lt (r_as (v := iv 0) rfl) rfl ?_
  refine RO.nil (nx ?_)
  refine ex_seq ?_
  refine ex_seq ?_
  refine ex_region ?_
  refine ro_lt (r_lda (l4.sub HS.sub) ag27 rfl rfl) rfl ?_
  refine ro_lt (r_mv (v := iv i) rfl) rfl ?_
  replace h := bind_some h; obtain ⟨y6, e7, h⟩ := h
  refine ro_hy (o_cf (vs := [.agg #[v_s0, v_s1], iv i]) HS rfl (c_Str_isNode (r_s0.sub HS.sub) (r_s1.sub HS.sub) e7) cf105 rfl) rfl ?_
  rintro _ w8 ⟨rfl, hb, HS⟩
  refine ro_lt (r_not rfl) rfl ?_
  refine ro_lt (r_mv (v := .bool ((!y6))) rfl) rfl ?_
  replace h := ite_some h; rcases h with ⟨c9, h⟩ | ⟨c9, h⟩
  rotate_left
  · refine ro_off (sb (congrArg (!·) (bf c9))) rfl rfl ?_
    refine ro_off (sb (congrArg (!·) (bf c9))) rfl rfl ?_
    refine ro_off (sb (congrArg (!·) (bf c9))) rfl rfl ?_
    refine ro_off (sb (congrArg (!·) (bf c9))) rfl rfl ?_
    refine ro_lt (r_pickt (v := .bool true) (congrArg (!·) (bf c9)) rfl rfl) rfl ?_
    refine RO.nil (nx ?_)
    refine ex_if_t rfl (rfl) ?_
    refine ex_seq ?_
    refine ex_region ?_
    refine ro_lt (r_as (v := iv 1) rfl) rfl ?_
    refine RO.nil (nx ?_)
    obtain rfl := Option.some.inj h
    refine ex_ret (tq_ret ?_)
    exact ret1 (.inr rfl) rfl rfl (P1.of_flat HS hs rfl)
  refine ro_on (sb (congrArg (!·) (c9))) ?_
  refine ro_lt (r_lda (l4.sub HS.sub) ag27 rfl rfl) rfl ?_
  refine ro_on (sb (congrArg (!·) (c9))) ?_
  refine ro_lt (r_mv (v := iv j) rfl) rfl ?_
  replace h := bind_some h; obtain ⟨y10, e11, h⟩ := h
  refine ro_on (sb (congrArg (!·) (c9))) ?_
  refine ro_hy (o_cf (vs := [.agg #[v_s0, v_s1], iv j]) HS rfl (c_Str_isNode (r_s0.sub HS.sub) (r_s1.sub HS.sub) e11) cf105 rfl) rfl ?_
  rintro _ w12 ⟨rfl, hb, HS⟩
  refine ro_on (sb (congrArg (!·) (c9))) ?_
  refine ro_lt (r_not rfl) rfl ?_
  refine ro_lt (r_pickf (v := .bool ((!y10))) (congrArg (!·) (c9)) rfl rfl) rfl ?_
  refine RO.nil (nx ?_)
  replace h := ite_some h; rcases h with ⟨c13, h⟩ | ⟨c13, h⟩
  rotate_left
  · refine ex_if_t rfl (congrArg (!·) (bf c13)) ?_
    refine ex_seq ?_
    refine ex_region ?_
    refine ro_lt (r_as (v := iv 1) rfl) rfl ?_
    refine RO.nil (nx ?_)
    obtain rfl := Option.some.inj h
    refine ex_ret (tq_ret ?_)
    exact ret1 (.inr rfl) rfl rfl (P1.of_flat HS hs rfl)
  refine ex_if_f rfl (congrArg (!·) (c13)) ?_
  refine ex_skip (nx ?_)
  refine ex_seq ?_
  refine ex_region ?_
  refine ro_lt (r_as (v := iv 0) rfl) rfl ?_
  refine RO.nil (nx ?_)
  refine ex_seq ?_
  refine ex_seq ?_
  refine ex_region ?_
  refine ro_lt (r_mv (v := iv i) rfl) rfl ?_
  refine ro_lt (r_mv (v := iv j) rfl) rfl ?_
  refine ro_lt (r_eql rfl rfl) rfl ?_
  refine RO.nil (nx ?_)
  replace h := ite_some h; rcases h with ⟨c14, h⟩ | ⟨c14, h⟩
  rotate_left
  · refine ex_if_f rfl (decide_eq_false c14) ?_
    refine ex_skip (nx ?_)
    refine ex_seq ?_
    refine ex_seq ?_
    refine ex_region ?_
    refine ro_lt (r_as (v := iv 2) rfl) rfl ?_
    refine RO.nil (nx ?_)
    replace h := bind_some h; obtain ⟨y44, e45, h⟩ := h
    refine ex_lbr (fun (st : Int) s' w' => Has s' [(1, iv i), (2, iv j), (3, .pointer (some ⟨g1, 0, none⟩)), (6, iv 0), (7, iv 0), (8, iv st)] ∧ St w H5 w' []) (fun r s' w' => FQ Try.prog Try.f164 37 (P1 (.int .i64) w r) .ret s' w') e45 ⟨⟨rfl, rfl, rfl, rfl, rfl, rfl, trivial⟩, HS⟩ ?_ ?_
    · rintro value_37 c' s' w38 ⟨hs_, HS⟩ h
      rw [has_put hs_]; clear hs_
      replace h : F_impl_PathOf_b2 s i j value_37 = some c' := h
      unfold F_impl_PathOf_b2 at h
      refine ex_seq ?_
      refine ex_seq ?_
      refine ex_region ?_
      refine ro_lt (r_mv (v := iv value_37) rfl) rfl ?_
      refine ro_lt (r_mv (v := iv 0) rfl) rfl ?_
      refine ro_lt (r_gtr rfl rfl) rfl ?_
      refine RO.nil (nx ?_)
      replace h := ite_some h; rcases h with ⟨c39, h⟩ | ⟨c39, h⟩
      rotate_left
      · refine ex_if_f rfl (decide_eq_false c39) ?_
        refine ex_exit (tq_exit ?_)
        obtain rfl := Option.some.inj h
        exact lq_out ⟨⟨rfl, rfl, rfl, rfl, rfl, rfl, trivial⟩, HS⟩
      refine ex_if_t rfl (decide_eq_true c39) ?_
      refine ex_skip (nx ?_)
      refine ex_seq ?_
      refine ex_block ?_
      refine ex_seq ?_
      refine ex_region ?_
      refine ro_lt (r_lda (l4.sub HS.sub) ag27 rfl rfl) rfl ?_
      refine ro_lt (r_mv (v := iv i) rfl) rfl ?_
      refine ro_lt (r_mv (v := iv j) rfl) rfl ?_
      refine ro_lt (r_mv (v := iv value_37) rfl) rfl ?_
      replace h := bind_some h; obtain ⟨y40, e41, h⟩ := h
      refine ro_hy (o_cf (vs := [.agg #[v_s0, v_s1], iv i, iv j, iv value_37]) HS rfl (c_impl_reaches (r_s0.sub HS.sub) (r_s1.sub HS.sub) e41) cf187 rfl) rfl ?_
      rintro _ w42 ⟨rfl, hb, HS⟩
      refine RO.nil (nx ?_)
      replace h := ite_some h; rcases h with ⟨c43, h⟩ | ⟨c43, h⟩
      · refine ex_if_t rfl (c43) ?_
        refine ex_seq ?_
        refine ex_region ?_
        refine ro_lt (r_mv (v := iv value_37) rfl) rfl ?_
        refine ro_lt (r_as (v := iv value_37) rfl) rfl ?_
        refine RO.nil (nx ?_)
        obtain rfl := Option.some.inj h
        refine ex_ret (blk_ret (tq_ret (lq_ret ?_)))
        exact ret1 (.inr rfl) rfl rfl (P1.of_flat HS hs rfl)
      refine ex_if_f rfl (bf c43) ?_
      refine ex_skip (blk_nx (nx ?_))
      refine ex_region ?_
      refine ro_lt (r_mv (v := iv value_37) rfl) rfl ?_
      refine ro_lt (r_subw rfl rfl) rfl ?_
      refine ro_lt (r_as (v := iv (wi (value_37 - 1))) rfl) rfl ?_
      refine RO.nil ?_
      obtain rfl := Option.some.inj h
      exact lq_go ⟨⟨rfl, rfl, rfl, rfl, rfl, rfl, trivial⟩, HS⟩
    rcases y44 with r48 | y44
    · intro s' w' hR
      obtain rfl := Option.some.inj h
      exact (tq_ret hR)
    rintro s' w46 ⟨hs_, HS⟩
    rw [has_put hs_]; clear hs_
    refine (nx ?_)
    refine ex_seq ?_
    refine ex_region ?_
    refine ro_lt (r_mv (v := iv 0) rfl) rfl ?_
    refine ro_lt (r_as (v := iv 0) rfl) rfl ?_
    refine RO.nil (nx ?_)
    obtain rfl := Option.some.inj h
    refine ex_ret ?_
    exact ret1 (.inr rfl) rfl rfl (P1.of_flat HS hs rfl)
  refine ex_if_t rfl (decide_eq_true c14) ?_
  refine ex_region ?_
  refine ro_lt (r_lda (l4.sub HS.sub) ag27 rfl rfl) rfl ?_
  refine ro_lt (r_mv (v := iv i) rfl) rfl ?_
  replace h := bind_some h; obtain ⟨y15, e16, h⟩ := h
  refine ro_hy (o_cf (vs := [.agg #[v_s0, v_s1], iv i]) HS rfl (c_impl_sameNode (r_s0.sub HS.sub) (r_s1.sub HS.sub) e16) cf186 rfl) rfl ?_
  rintro _ w17 ⟨rfl, hb, HS⟩
  refine ro_lt (r_as (v := iv y15) rfl) rfl ?_
  refine RO.nil (nx ?_)
  refine ex_seq ?_
  refine ex_seq ?_
  refine ex_region ?_
  refine ro_lt (r_as (v := iv 2) rfl) rfl ?_
  refine RO.nil (nx ?_)
  replace h := bind_some h; obtain ⟨y30, e31, h⟩ := h
  refine ex_lbr (fun (st : Int) s' w' => Has s' [(1, iv i), (2, iv j), (3, .pointer (some ⟨g1, 0, none⟩)), (6, iv 0), (7, iv y15), (8, iv st)] ∧ St w H5 w' []) (fun r s' w' => FQ Try.prog Try.f164 37 (P1 (.int .i64) w r) .ret s' w') e31 ⟨⟨rfl, rfl, rfl, rfl, rfl, rfl, trivial⟩, HS⟩ ?_ ?_
  · rintro value_23 c' s' w24 ⟨hs_, HS⟩ h
    rw [has_put hs_]; clear hs_
    replace h : F_impl_PathOf_b1 y15 s i j value_23 = some c' := h
    unfold F_impl_PathOf_b1 at h
    refine ex_seq ?_
    refine ex_seq ?_
    refine ex_region ?_
    refine ro_lt (r_mv (v := iv value_23) rfl) rfl ?_
    refine ro_lt (r_mv (v := iv y15) rfl) rfl ?_
    refine ro_lt (r_gtr rfl rfl) rfl ?_
    refine RO.nil (nx ?_)
    replace h := ite_some h; rcases h with ⟨c25, h⟩ | ⟨c25, h⟩
    rotate_left
    · refine ex_if_f rfl (decide_eq_false c25) ?_
      refine ex_exit (tq_exit ?_)
      obtain rfl := Option.some.inj h
      exact lq_out ⟨⟨rfl, rfl, rfl, rfl, rfl, rfl, trivial⟩, HS⟩
    refine ex_if_t rfl (decide_eq_true c25) ?_
    refine ex_skip (nx ?_)
    refine ex_seq ?_
    refine ex_block ?_
    refine ex_seq ?_
    refine ex_region ?_
    refine ro_lt (r_lda (l4.sub HS.sub) ag27 rfl rfl) rfl ?_
    refine ro_lt (r_mv (v := iv i) rfl) rfl ?_
    refine ro_lt (r_mv (v := iv j) rfl) rfl ?_
    refine ro_lt (r_mv (v := iv value_23) rfl) rfl ?_
    replace h := bind_some h; obtain ⟨y26, e27, h⟩ := h
    refine ro_hy (o_cf (vs := [.agg #[v_s0, v_s1], iv i, iv j, iv value_23]) HS rfl (c_impl_reaches (r_s0.sub HS.sub) (r_s1.sub HS.sub) e27) cf187 rfl) rfl ?_
    rintro _ w28 ⟨rfl, hb, HS⟩
    refine RO.nil (nx ?_)
    replace h := ite_some h; rcases h with ⟨c29, h⟩ | ⟨c29, h⟩
    · refine ex_if_t rfl (c29) ?_
      refine ex_seq ?_
      refine ex_region ?_
      refine ro_lt (r_mv (v := iv value_23) rfl) rfl ?_
      refine ro_lt (r_as (v := iv value_23) rfl) rfl ?_
      refine RO.nil (nx ?_)
      obtain rfl := Option.some.inj h
      refine ex_ret (blk_ret (tq_ret (lq_ret ?_)))
      exact ret1 (.inr rfl) rfl rfl (P1.of_flat HS hs rfl)
    refine ex_if_f rfl (bf c29) ?_
    refine ex_skip (blk_nx (nx ?_))
    refine ex_region ?_
    refine ro_lt (r_mv (v := iv value_23) rfl) rfl ?_
    refine ro_lt (r_subw rfl rfl) rfl ?_
    refine ro_lt (r_as (v := iv (wi (value_23 - 1))) rfl) rfl ?_
    refine RO.nil ?_
    obtain rfl := Option.some.inj h
    exact lq_go ⟨⟨rfl, rfl, rfl, rfl, rfl, rfl, trivial⟩, HS⟩
  rcases y30 with r34 | y30
  · intro s' w' hR
    obtain rfl := Option.some.inj h
    exact (tq_ret hR)
  rintro s' w32 ⟨hs_, HS⟩
  rw [has_put hs_]; clear hs_
  refine (nx ?_)
  refine ex_seq ?_
  refine ex_region ?_
  refine ro_lt (r_mv (v := iv y15) rfl) rfl ?_
  refine ro_lt (r_as (v := iv y15) rfl) rfl ?_
  refine RO.nil (nx ?_)
  obtain rfl := Option.some.inj h
  refine ex_ret ?_
  exact ret1 (.inr rfl) rfl rfl (P1.of_flat HS hs rfl)
theorem c_impl_sharpener_sourced {w : World} {H : Hp} {FR : List Ob} {g_c : Nat} {v_c_Nodes : Value} {n_c : Nat} {sh_c : Shp} {c_Nodes : List (List Int × List Int × Int × Int)} {v_c_Next : Value} {c_Next : List Int} {c_vars : Int} {c_changed : Bool} {c_bad : Bool} {a : Int} {p : Int} (HS : St w H w (.bx g_c 95 [v_c_Nodes, v_c_Next, iv c_vars, .bool c_changed, .bool c_bad] :: .pr (NS 72 3 n_c v_c_Nodes sh_c c_Nodes) :: .ow (.sl 3 (.int .i64)) c_Next [v_c_Next] :: FR)) {r : List (List Int × List Int × Int × Int) × List Int × Bool × Bool} (h : F_impl_sharpener_sourced n_c c_Nodes c_Next c_vars c_changed c_bad a p = some r) : Calls Try.prog 133 [.pointer (some ⟨g_c, 0, none⟩), iv a, iv p].toArray w (((fun r => PS (.tuple #[]) fun w' => St w H w' (.bx g_c 95 [v_c_Nodes, v_c_Next, iv c_vars, .bool r.2.2.1, .bool r.2.2.2] :: .pr (NS 72 3 n_c v_c_Nodes sh_c r.1) :: .ow (.sl 3 (.int .i64)) r.2.1 [v_c_Next] :: FR)) : (List (List Int × List Int × Int × Int) × List Int × Bool × Bool) → Ending → World → Prop) r) := by
  unfold F_impl_sharpener_sourced at h
  refine calls_ex (n := 183) Try.func133 rfl Try.ntmps133 (Nat.le_of_ble_eq_true rfl) ?_
  refine ex_seq ?_
  refine ex_region ?_
  refine ro_lt (r_mv (v := .pointer (some ⟨g_c, 0, none⟩)) rfl) rfl ?_
  refine ro_lt (r_nc (HS.boxAt 0 rfl) rfl) rfl ?_
  refine ro_lt (r_fa (HS.boxAt 0 rfl) fd95_0 rfl) rfl ?_
  refine ro_lt (r_fa ((HS.boxAt 0 rfl).seg 0 2) fd27_0 rfl) rfl ?_
  refine ro_lt (r_ld (((HS.boxAt 0 rfl).seg 0 2).seg 0 1) sc24 rfl) rfl ?_
  refine ro_lt (r_mv (v := iv p) rfl) rfl ?_
  replace h := grd_some h; obtain ⟨g4, h⟩ := h
  refine ro_lt (r_ian HS (k := 1) rfl sl24 g4.1 g4.2 rfl rfl) rfl ?_
  refine ro_lt (r_as (v := (eaddr v_c_Nodes (p.toNat * 4))) rfl) rfl ?_
  refine RO.nil (nx ?_)
  refine ex_seq ?_
  refine ex_seq ?_
  refine ex_region ?_
  refine ro_lt (r_mv (v := (eaddr v_c_Nodes (p.toNat * 4))) rfl) rfl ?_
  refine ro_lt (r_nc (HS.nsAt 1 rfl (i := p.toNat) (by omega)) rfl) rfl ?_
  refine ro_lt (r_fa (HS.nsAt 1 rfl (i := p.toNat) (by omega)) fd72_0 rfl) rfl ?_
  refine ro_lt (r_ld (v := (sh_c p.toNat).1) ((HS.nsAt 1 rfl (i := p.toNat) (by omega)).seg 0 1) sc25 rfl) rfl ?_
  refine ro_lt (r_mv (v := iv a) rfl) rfl ?_
  replace h := grd_some h; obtain ⟨g5, h⟩ := h
  refine ro_lt (r_ia (HS.nsR1 1 rfl (i := p.toNat) (by omega)) sl25 g5.1 g5.2 rfl rfl) rfl ?_
  refine ro_lt (r_ld ((HS.nsR1 1 rfl (i := p.toNat) (by omega)).int g5.1 g5.2) sc3 rfl) rfl ?_
  refine ro_lt (r_eql rfl rfl) rfl ?_
  refine ro_lt (r_mv (v := .bool ((decide (((c_Nodes.getD p.toNat dN).1).getD a.toNat 0 = 0)))) rfl) rfl ?_
  replace h := ite_some h; rcases h with ⟨c6, h⟩ | ⟨c6, h⟩
  rotate_left
  · refine ro_off (sb (decide_eq_false c6)) rfl rfl ?_
    refine ro_off (sb (decide_eq_false c6)) rfl rfl ?_
    refine ro_off (sb (decide_eq_false c6)) rfl rfl ?_
    refine ro_off (sb (decide_eq_false c6)) rfl rfl ?_
    refine ro_off (sb (decide_eq_false c6)) rfl rfl ?_
    refine ro_off (sb (decide_eq_false c6)) rfl rfl ?_
    refine ro_off (sb (decide_eq_false c6)) rfl rfl ?_
    refine ro_off (sb (decide_eq_false c6)) rfl rfl ?_
    refine ro_lt (r_pickf (v := .bool false) (decide_eq_false c6) rfl rfl) rfl ?_
    refine RO.nil (nx ?_)
    refine ex_if_f rfl (rfl) ?_
    refine ex_skip (nx ?_)
    refine ex_seq ?_
    refine ex_region ?_
    refine ro_lt (r_mv (v := .pointer (some ⟨g_c, 0, none⟩)) rfl) rfl ?_
    refine ro_lt (r_nc (HS.boxAt 0 rfl) rfl) rfl ?_
    refine ro_lt (r_fa (HS.boxAt 0 rfl) fd95_0 rfl) rfl ?_
    refine ro_lt (r_fa ((HS.boxAt 0 rfl).seg 0 2) fd27_0 rfl) rfl ?_
    refine ro_lt (r_ld (((HS.boxAt 0 rfl).seg 0 2).seg 0 1) sc24 rfl) rfl ?_
    have b261 := HS.nsBig 1 rfl
    refine ro_lt (r_lenn (m := 4) HS (k := 1) rfl sl24 rfl) rfl ?_
    refine ro_lt (r_mv (v := iv 0) rfl) rfl ?_
    refine RO.nil (nx ?_)
    replace h := bind_some h; obtain ⟨y282, e283, h⟩ := h
    refine ex_lbo (fun (st : Bool × Bool × (List (List Int × List Int × Int × Int)) × Int) s' w' => Has s' [(0, .pointer (some ⟨g_c, 0, none⟩)), (1, iv a), (2, iv p), (6, (eaddr v_c_Nodes (p.toNat * 4))), (147, iv ((n_c : Int))), (148, iv st.2.2.2)] ∧ St w H w' (.bx g_c 95 [v_c_Nodes, v_c_Next, iv c_vars, .bool st.1, .bool st.2.1] :: .pr (NS 72 3 n_c v_c_Nodes sh_c st.2.2.1) :: .ow (.sl 3 (.int .i64)) c_Next [v_c_Next] :: FR)) e283 ⟨⟨rfl, rfl, rfl, rfl, rfl, rfl, trivial⟩, HS⟩ ?_ ?_
    · rintro ⟨changed_264, bad_265, Nodes_266, i267⟩ c' s' w268 ⟨hs_, HS⟩ h
      rw [has_put hs_]; clear hs_
      try dsimp only at HS
      replace h : F_impl_sharpener_sourced_b1 n_c a c_Next p changed_264 bad_265 Nodes_266 i267 = some c' := h
      unfold F_impl_sharpener_sourced_b1 at h
      refine ex_seq ?_
      refine ex_region ?_
      refine ro_lt (r_lss rfl rfl) rfl ?_
      refine RO.nil (nx ?_)
      refine ex_seq ?_
      replace h := ite_some h; rcases h with ⟨c269, h⟩ | ⟨c269, h⟩
      rotate_left
      · refine ex_if_f rfl (decide_eq_false c269) ?_
        refine ex_exit (tq_exit ?_)
        obtain rfl := Option.some.inj h
        exact lq_out ⟨⟨rfl, rfl, rfl, rfl, rfl, rfl, trivial⟩, HS⟩
      refine ex_if_t rfl (decide_eq_true c269) ?_
      refine ex_skip (nx ?_)
      refine ex_seq ?_
      refine ex_block ?_
      refine ex_seq ?_
      refine ex_region ?_
      refine ro_lt (r_mv (v := iv i267) rfl) rfl ?_
      refine ro_lt (r_as (v := iv i267) rfl) rfl ?_
      refine RO.nil (nx ?_)
      refine ex_seq ?_
      refine ex_region ?_
      refine ro_lt (r_mv (v := .pointer (some ⟨g_c, 0, none⟩)) rfl) rfl ?_
      refine ro_lt (r_nc (HS.boxAt 0 rfl) rfl) rfl ?_
      refine ro_lt (r_fa (HS.boxAt 0 rfl) fd95_0 rfl) rfl ?_
      refine ro_lt (r_fa ((HS.boxAt 0 rfl).seg 0 2) fd27_0 rfl) rfl ?_
      refine ro_lt (r_ld (((HS.boxAt 0 rfl).seg 0 2).seg 0 1) sc24 rfl) rfl ?_
      refine ro_lt (r_mv (v := iv i267) rfl) rfl ?_
      replace h := grd_some h; obtain ⟨g270, h⟩ := h
      refine ro_lt (r_ian HS (k := 1) rfl sl24 g270.1 g270.2 rfl rfl) rfl ?_
      refine ro_lt (r_fa (HS.nsAt 1 rfl (i := i267.toNat) (by omega)) fd72_0 rfl) rfl ?_
      refine ro_lt (r_ld (v := (sh_c i267.toNat).1) ((HS.nsAt 1 rfl (i := i267.toNat) (by omega)).seg 0 1) sc25 rfl) rfl ?_
      refine ro_lt (r_mv (v := iv a) rfl) rfl ?_
      replace h := grd_some h; obtain ⟨g271, h⟩ := h
      refine ro_lt (r_ia (HS.nsR1 1 rfl (i := i267.toNat) (by omega)) sl25 g271.1 g271.2 rfl rfl) rfl ?_
      refine ro_lt (r_ld ((HS.nsR1 1 rfl (i := i267.toNat) (by omega)).int g271.1 g271.2) sc3 rfl) rfl ?_
      refine ro_lt (r_eql rfl rfl) rfl ?_
      refine ro_lt (r_mv (v := .bool ((decide (((Nodes_266.getD i267.toNat dN).1).getD a.toNat 0 = 2)))) rfl) rfl ?_
      replace h := ite_some h; rcases h with ⟨c272, h⟩ | ⟨c272, h⟩
      rotate_left
      · refine ro_off (sb (decide_eq_false c272)) rfl rfl ?_
        refine ro_off (sb (decide_eq_false c272)) rfl rfl ?_
        refine ro_off (sb (decide_eq_false c272)) rfl rfl ?_
        refine ro_off (sb (decide_eq_false c272)) rfl rfl ?_
        refine ro_off (sb (decide_eq_false c272)) rfl rfl ?_
        refine ro_off (sb (decide_eq_false c272)) rfl rfl ?_
        refine ro_off (sb (decide_eq_false c272)) rfl rfl ?_
        refine ro_off (sb (decide_eq_false c272)) rfl rfl ?_
        refine ro_lt (r_pickf (v := .bool false) (decide_eq_false c272) rfl rfl) rfl ?_
        refine RO.nil (nx ?_)
        refine ex_if_f rfl (rfl) ?_
        refine ex_skip (blk_nx (nx ?_))
        refine ex_region ?_
        refine ro_lt (r_addw rfl rfl) rfl ?_
        refine ro_lt (r_mv (v := iv (wi (i267 + 1))) rfl) rfl ?_
        refine RO.nil ?_
        obtain rfl := Option.some.inj h
        exact lq_go ⟨⟨rfl, rfl, rfl, rfl, rfl, rfl, trivial⟩, HS⟩
      refine ro_on (sb (decide_eq_true c272)) ?_
      refine ro_lt (r_mv (v := .pointer (some ⟨g_c, 0, none⟩)) rfl) rfl ?_
      refine ro_on (sb (decide_eq_true c272)) ?_
      refine ro_lt (r_nc (HS.boxAt 0 rfl) rfl) rfl ?_
      refine ro_on (sb (decide_eq_true c272)) ?_
      refine ro_lt (r_fa (HS.boxAt 0 rfl) fd95_0 rfl) rfl ?_
      refine ro_on (sb (decide_eq_true c272)) ?_
      refine ro_lt (r_lda ((HS.boxAt 0 rfl).seg 0 2) ag27 rfl rfl) rfl ?_
      refine ro_on (sb (decide_eq_true c272)) ?_
      refine ro_lt (r_mv (v := iv i267) rfl) rfl ?_
      refine ro_on (sb (decide_eq_true c272)) ?_
      refine ro_lt (r_mv (v := iv p) rfl) rfl ?_
      replace h := bind_some h; obtain ⟨y273, e274, h⟩ := h
      refine ro_on (sb (decide_eq_true c272)) ?_
      refine ro_hy (o_cf (vs := [.agg #[v_c_Nodes, v_c_Next], iv i267, iv p]) HS rfl (c_impl_PathOf (HS.nsRd 1 rfl) (HS.rd 2 rfl) e274) cf164 rfl) rfl ?_
      rintro _ w275 ⟨rfl, hb, HS⟩
      refine ro_on (sb (decide_eq_true c272)) ?_
      refine ro_lt (r_eql rfl rfl) rfl ?_
      refine ro_lt (r_pickt (v := .bool ((decide (y273 = 0)))) (decide_eq_true c272) rfl rfl) rfl ?_
      refine RO.nil (nx ?_)
      replace h := ite_some h; rcases h with ⟨c276, h⟩ | ⟨c276, h⟩
      rotate_left
      · refine ex_if_f rfl (decide_eq_false c276) ?_
        refine ex_skip (blk_nx (nx ?_))
        refine ex_region ?_
        refine ro_lt (r_addw rfl rfl) rfl ?_
        refine ro_lt (r_mv (v := iv (wi (i267 + 1))) rfl) rfl ?_
        refine RO.nil ?_
        obtain rfl := Option.some.inj h
        exact lq_go ⟨⟨rfl, rfl, rfl, rfl, rfl, rfl, trivial⟩, HS⟩
      refine ex_if_t rfl (decide_eq_true c276) ?_
      refine ex_region ?_
      refine ro_lt (r_mv (v := .pointer (some ⟨g_c, 0, none⟩)) rfl) rfl ?_
      refine ro_lt (r_mv (v := (eaddr v_c_Nodes (p.toNat * 4))) rfl) rfl ?_
      refine ro_lt (r_nc (HS.nsAt 1 rfl (i := p.toNat) (by omega)) rfl) rfl ?_
      refine ro_lt (r_fa (HS.nsAt 1 rfl (i := p.toNat) (by omega)) fd72_1 rfl) rfl ?_
      refine ro_lt (r_ld (v := (sh_c p.toNat).2) ((HS.nsAt 1 rfl (i := p.toNat) (by omega)).seg 1 1) sc25 rfl) rfl ?_
      refine ro_lt (r_mv (v := iv a) rfl) rfl ?_
      replace h := grd_some h; obtain ⟨g277, h⟩ := h
      refine ro_lt (r_ia (HS.nsR2 1 rfl (i := p.toNat) (by omega)) sl25 g277.1 g277.2 rfl rfl) rfl ?_
      replace h := bind_some h; obtain ⟨y279, e280, h⟩ := h
      refine ro_hy (o_cs (vs := [.pointer (some ⟨g_c, 0, none⟩), eaddr (sh_c p.toNat).2 (a.toNat * 1), iv 0]) (c_set_r2 HS.self g4.1 g4.2 g277.1 g277.2 e280) cf161 rfl) rfl ?_
      rintro _ w278 ⟨rfl, HS2⟩
      replace HS := HS.from HS2
      refine RO.nil (blk_nx (nx ?_))
      refine ex_region ?_
      refine ro_lt (r_addw rfl rfl) rfl ?_
      refine ro_lt (r_mv (v := iv (wi (i267 + 1))) rfl) rfl ?_
      refine RO.nil ?_
      obtain rfl := Option.some.inj h
      exact lq_go ⟨⟨rfl, rfl, rfl, rfl, rfl, rfl, trivial⟩, HS⟩
    rintro s' w284 ⟨hs_, HS⟩
    rw [has_put hs_]; clear hs_
    obtain rfl := Option.some.inj h
    exact ret0 (.inl rfl) rfl ⟨rfl, HS⟩
  refine ro_on (sb (decide_eq_true c6)) ?_
  refine ro_lt (r_mv (v := (eaddr v_c_Nodes (p.toNat * 4))) rfl) rfl ?_
  refine ro_on (sb (decide_eq_true c6)) ?_
  refine ro_lt (r_nc (HS.nsAt 1 rfl (i := p.toNat) (by omega)) rfl) rfl ?_
  refine ro_on (sb (decide_eq_true c6)) ?_
  refine ro_lt (r_fa (HS.nsAt 1 rfl (i := p.toNat) (by omega)) fd72_1 rfl) rfl ?_
  refine ro_on (sb (decide_eq_true c6)) ?_
  refine ro_lt (r_ld (v := (sh_c p.toNat).2) ((HS.nsAt 1 rfl (i := p.toNat) (by omega)).seg 1 1) sc25 rfl) rfl ?_
  refine ro_on (sb (decide_eq_true c6)) ?_
  refine ro_lt (r_mv (v := iv a) rfl) rfl ?_
  replace h := grd_some h; obtain ⟨g7, h⟩ := h
  refine ro_on (sb (decide_eq_true c6)) ?_
  refine ro_lt (r_ia (HS.nsR2 1 rfl (i := p.toNat) (by omega)) sl25 g7.1 g7.2 rfl rfl) rfl ?_
  refine ro_on (sb (decide_eq_true c6)) ?_
  refine ro_lt (r_ld ((HS.nsR2 1 rfl (i := p.toNat) (by omega)).int g7.1 g7.2) sc3 rfl) rfl ?_
  refine ro_on (sb (decide_eq_true c6)) ?_
  refine ro_lt (r_neq rfl rfl) rfl ?_
  refine ro_lt (r_pickt (v := .bool ((!(decide (((c_Nodes.getD p.toNat dN).2.1).getD a.toNat 0 = 0))))) (decide_eq_true c6) rfl rfl) rfl ?_
  refine RO.nil (nx ?_)
  replace h := ite_some h; rcases h with ⟨c8, h⟩ | ⟨c8, h⟩
  · refine ex_if_f rfl (congrArg (!·) (decide_eq_true c8)) ?_
    refine ex_skip (nx ?_)
    refine ex_seq ?_
    refine ex_region ?_
    refine ro_lt (r_mv (v := .pointer (some ⟨g_c, 0, none⟩)) rfl) rfl ?_
    refine ro_lt (r_nc (HS.boxAt 0 rfl) rfl) rfl ?_
    refine ro_lt (r_fa (HS.boxAt 0 rfl) fd95_0 rfl) rfl ?_
    refine ro_lt (r_fa ((HS.boxAt 0 rfl).seg 0 2) fd27_0 rfl) rfl ?_
    refine ro_lt (r_ld (((HS.boxAt 0 rfl).seg 0 2).seg 0 1) sc24 rfl) rfl ?_
    have b9 := HS.nsBig 1 rfl
    refine ro_lt (r_lenn (m := 4) HS (k := 1) rfl sl24 rfl) rfl ?_
    refine ro_lt (r_mv (v := iv 0) rfl) rfl ?_
    refine RO.nil (nx ?_)
    replace h := bind_some h; obtain ⟨y36, e37, h⟩ := h
    refine ex_lbo (fun (st : Bool × Bool × (List (List Int × List Int × Int × Int)) × Int) s' w' => Has s' [(0, .pointer (some ⟨g_c, 0, none⟩)), (1, iv a), (2, iv p), (6, (eaddr v_c_Nodes (p.toNat * 4))), (147, iv ((n_c : Int))), (148, iv st.2.2.2)] ∧ St w H w' (.bx g_c 95 [v_c_Nodes, v_c_Next, iv c_vars, .bool st.1, .bool st.2.1] :: .pr (NS 72 3 n_c v_c_Nodes sh_c st.2.2.1) :: .ow (.sl 3 (.int .i64)) c_Next [v_c_Next] :: FR)) e37 ⟨⟨rfl, rfl, rfl, rfl, rfl, rfl, trivial⟩, HS⟩ ?_ ?_
    · rintro ⟨changed_18, bad_19, Nodes_20, i21⟩ c' s' w22 ⟨hs_, HS⟩ h
      rw [has_put hs_]; clear hs_
      try dsimp only at HS
      replace h : F_impl_sharpener_sourced_b1 n_c a c_Next p changed_18 bad_19 Nodes_20 i21 = some c' := h
      unfold F_impl_sharpener_sourced_b1 at h
      refine ex_seq ?_
      refine ex_region ?_
      refine ro_lt (r_lss rfl rfl) rfl ?_
      refine RO.nil (nx ?_)
      refine ex_seq ?_
      replace h := ite_some h; rcases h with ⟨c23, h⟩ | ⟨c23, h⟩
      rotate_left
      · refine ex_if_f rfl (decide_eq_false c23) ?_
        refine ex_exit (tq_exit ?_)
        obtain rfl := Option.some.inj h
        exact lq_out ⟨⟨rfl, rfl, rfl, rfl, rfl, rfl, trivial⟩, HS⟩
      refine ex_if_t rfl (decide_eq_true c23) ?_
      refine ex_skip (nx ?_)
      refine ex_seq ?_
      refine ex_block ?_
      refine ex_seq ?_
      refine ex_region ?_
      refine ro_lt (r_mv (v := iv i21) rfl) rfl ?_
      refine ro_lt (r_as (v := iv i21) rfl) rfl ?_
      refine RO.nil (nx ?_)
      refine ex_seq ?_
      refine ex_region ?_
      refine ro_lt (r_mv (v := .pointer (some ⟨g_c, 0, none⟩)) rfl) rfl ?_
      refine ro_lt (r_nc (HS.boxAt 0 rfl) rfl) rfl ?_
      refine ro_lt (r_fa (HS.boxAt 0 rfl) fd95_0 rfl) rfl ?_
      refine ro_lt (r_fa ((HS.boxAt 0 rfl).seg 0 2) fd27_0 rfl) rfl ?_
      refine ro_lt (r_ld (((HS.boxAt 0 rfl).seg 0 2).seg 0 1) sc24 rfl) rfl ?_
      refine ro_lt (r_mv (v := iv i21) rfl) rfl ?_
      replace h := grd_some h; obtain ⟨g24, h⟩ := h
      refine ro_lt (r_ian HS (k := 1) rfl sl24 g24.1 g24.2 rfl rfl) rfl ?_
      refine ro_lt (r_fa (HS.nsAt 1 rfl (i := i21.toNat) (by omega)) fd72_0 rfl) rfl ?_
      refine ro_lt (r_ld (v := (sh_c i21.toNat).1) ((HS.nsAt 1 rfl (i := i21.toNat) (by omega)).seg 0 1) sc25 rfl) rfl ?_
      refine ro_lt (r_mv (v := iv a) rfl) rfl ?_
      replace h := grd_some h; obtain ⟨g25, h⟩ := h
      refine ro_lt (r_ia (HS.nsR1 1 rfl (i := i21.toNat) (by omega)) sl25 g25.1 g25.2 rfl rfl) rfl ?_
      refine ro_lt (r_ld ((HS.nsR1 1 rfl (i := i21.toNat) (by omega)).int g25.1 g25.2) sc3 rfl) rfl ?_
      refine ro_lt (r_eql rfl rfl) rfl ?_
      refine ro_lt (r_mv (v := .bool ((decide (((Nodes_20.getD i21.toNat dN).1).getD a.toNat 0 = 2)))) rfl) rfl ?_
      replace h := ite_some h; rcases h with ⟨c26, h⟩ | ⟨c26, h⟩
      rotate_left
      · refine ro_off (sb (decide_eq_false c26)) rfl rfl ?_
        refine ro_off (sb (decide_eq_false c26)) rfl rfl ?_
        refine ro_off (sb (decide_eq_false c26)) rfl rfl ?_
        refine ro_off (sb (decide_eq_false c26)) rfl rfl ?_
        refine ro_off (sb (decide_eq_false c26)) rfl rfl ?_
        refine ro_off (sb (decide_eq_false c26)) rfl rfl ?_
        refine ro_off (sb (decide_eq_false c26)) rfl rfl ?_
        refine ro_off (sb (decide_eq_false c26)) rfl rfl ?_
        refine ro_lt (r_pickf (v := .bool false) (decide_eq_false c26) rfl rfl) rfl ?_
        refine RO.nil (nx ?_)
        refine ex_if_f rfl (rfl) ?_
        refine ex_skip (blk_nx (nx ?_))
        refine ex_region ?_
        refine ro_lt (r_addw rfl rfl) rfl ?_
        refine ro_lt (r_mv (v := iv (wi (i21 + 1))) rfl) rfl ?_
        refine RO.nil ?_
        obtain rfl := Option.some.inj h
        exact lq_go ⟨⟨rfl, rfl, rfl, rfl, rfl, rfl, trivial⟩, HS⟩
      refine ro_on (sb (decide_eq_true c26)) ?_
      refine ro_lt (r_mv (v := .pointer (some ⟨g_c, 0, none⟩)) rfl) rfl ?_
      refine ro_on (sb (decide_eq_true c26)) ?_
      refine ro_lt (r_nc (HS.boxAt 0 rfl) rfl) rfl ?_
      refine ro_on (sb (decide_eq_true c26)) ?_
      refine ro_lt (r_fa (HS.boxAt 0 rfl) fd95_0 rfl) rfl ?_
      refine ro_on (sb (decide_eq_true c26)) ?_
      refine ro_lt (r_lda ((HS.boxAt 0 rfl).seg 0 2) ag27 rfl rfl) rfl ?_
      refine ro_on (sb (decide_eq_true c26)) ?_
      refine ro_lt (r_mv (v := iv i21) rfl) rfl ?_
      refine ro_on (sb (decide_eq_true c26)) ?_
      refine ro_lt (r_mv (v := iv p) rfl) rfl ?_
      replace h := bind_some h; obtain ⟨y27, e28, h⟩ := h
      refine ro_on (sb (decide_eq_true c26)) ?_
      refine ro_hy (o_cf (vs := [.agg #[v_c_Nodes, v_c_Next], iv i21, iv p]) HS rfl (c_impl_PathOf (HS.nsRd 1 rfl) (HS.rd 2 rfl) e28) cf164 rfl) rfl ?_
      rintro _ w29 ⟨rfl, hb, HS⟩
      refine ro_on (sb (decide_eq_true c26)) ?_
      refine ro_lt (r_eql rfl rfl) rfl ?_
      refine ro_lt (r_pickt (v := .bool ((decide (y27 = 0)))) (decide_eq_true c26) rfl rfl) rfl ?_
      refine RO.nil (nx ?_)
      replace h := ite_some h; rcases h with ⟨c30, h⟩ | ⟨c30, h⟩
      rotate_left
      · refine ex_if_f rfl (decide_eq_false c30) ?_
        refine ex_skip (blk_nx (nx ?_))
        refine ex_region ?_
        refine ro_lt (r_addw rfl rfl) rfl ?_
        refine ro_lt (r_mv (v := iv (wi (i21 + 1))) rfl) rfl ?_
        refine RO.nil ?_
        obtain rfl := Option.some.inj h
        exact lq_go ⟨⟨rfl, rfl, rfl, rfl, rfl, rfl, trivial⟩, HS⟩
      refine ex_if_t rfl (decide_eq_true c30) ?_
      refine ex_region ?_
      refine ro_lt (r_mv (v := .pointer (some ⟨g_c, 0, none⟩)) rfl) rfl ?_
      refine ro_lt (r_mv (v := (eaddr v_c_Nodes (p.toNat * 4))) rfl) rfl ?_
      refine ro_lt (r_nc (HS.nsAt 1 rfl (i := p.toNat) (by omega)) rfl) rfl ?_
      refine ro_lt (r_fa (HS.nsAt 1 rfl (i := p.toNat) (by omega)) fd72_1 rfl) rfl ?_
      refine ro_lt (r_ld (v := (sh_c p.toNat).2) ((HS.nsAt 1 rfl (i := p.toNat) (by omega)).seg 1 1) sc25 rfl) rfl ?_
      refine ro_lt (r_mv (v := iv a) rfl) rfl ?_
      replace h := grd_some h; obtain ⟨g31, h⟩ := h
      refine ro_lt (r_ia (HS.nsR2 1 rfl (i := p.toNat) (by omega)) sl25 g31.1 g31.2 rfl rfl) rfl ?_
      replace h := bind_some h; obtain ⟨y33, e34, h⟩ := h
      refine ro_hy (o_cs (vs := [.pointer (some ⟨g_c, 0, none⟩), eaddr (sh_c p.toNat).2 (a.toNat * 1), iv 0]) (c_set_r2 HS.self g4.1 g4.2 g31.1 g31.2 e34) cf161 rfl) rfl ?_
      rintro _ w32 ⟨rfl, HS2⟩
      replace HS := HS.from HS2
      refine RO.nil (blk_nx (nx ?_))
      refine ex_region ?_
      refine ro_lt (r_addw rfl rfl) rfl ?_
      refine ro_lt (r_mv (v := iv (wi (i21 + 1))) rfl) rfl ?_
      refine RO.nil ?_
      obtain rfl := Option.some.inj h
      exact lq_go ⟨⟨rfl, rfl, rfl, rfl, rfl, rfl, trivial⟩, HS⟩
    rintro s' w38 ⟨hs_, HS⟩
    rw [has_put hs_]; clear hs_
    obtain rfl := Option.some.inj h
    exact ret0 (.inl rfl) rfl ⟨rfl, HS⟩
  refine ex_if_t rfl (congrArg (!·) (decide_eq_false c8)) ?_
  refine ex_seq ?_
  refine ex_region ?_
  refine ro_hy (o_bsv HS (cs := []) sl25 zz3 (vs := []) rfl rfl vc0 rfl rfl (by decide)) rfl ?_
  rintro _ w41 ⟨g40, rfl, hb, HS⟩
  replace HS := HS.lit0 (.int .i64)
  refine ro_lt (r_as (v := (.slice (some ⟨g40, 0, none⟩) 0 0)) rfl) rfl ?_
  refine RO.nil (nx ?_)
  refine ex_seq ?_
  refine ex_seq ?_
  refine ex_region ?_
  refine ro_lt (r_mv (v := .pointer (some ⟨g_c, 0, none⟩)) rfl) rfl ?_
  refine ro_lt (r_nc (HS.boxAt 1 rfl) rfl) rfl ?_
  refine ro_lt (r_fa (HS.boxAt 1 rfl) fd95_0 rfl) rfl ?_
  refine ro_lt (r_fa ((HS.boxAt 1 rfl).seg 0 2) fd27_0 rfl) rfl ?_
  refine ro_lt (r_ld (((HS.boxAt 1 rfl).seg 0 2).seg 0 1) sc24 rfl) rfl ?_
  have b43 := HS.nsBig 2 rfl
  refine ro_lt (r_lenn (m := 4) HS (k := 2) rfl sl24 rfl) rfl ?_
  refine ro_lt (r_mv (v := iv 0) rfl) rfl ?_
  refine RO.nil (nx ?_)
  replace h := bind_some h; obtain ⟨y83, e84, h⟩ := h
  refine ex_lbo (fun (st : Bool × Bool × (List (List Int × List Int × Int × Int)) × (List Int) × (List Int) × Int) s' w' => ∃ v62 : Value, Has s' [(0, .pointer (some ⟨g_c, 0, none⟩)), (1, iv a), (2, iv p), (6, (eaddr v_c_Nodes (p.toNat * 4))), (7, v62), (41, iv ((n_c : Int))), (42, iv st.2.2.2.2.2)] ∧ St w H w' (.ow (.sl 3 (.int .i64)) st.2.2.2.2.1 [v62] :: .bx g_c 95 [v_c_Nodes, v_c_Next, iv c_vars, .bool st.1, .bool st.2.1] :: .pr (NS 72 3 n_c v_c_Nodes sh_c st.2.2.1) :: .ow (.sl 3 (.int .i64)) st.2.2.2.1 [v_c_Next] :: FR)) e84 ⟨(.slice (some ⟨g40, 0, none⟩) 0 0), ⟨rfl, rfl, rfl, rfl, rfl, rfl, rfl, trivial⟩, HS⟩ ?_ ?_
  · rintro ⟨changed_56, bad_57, Nodes_58, Next_59, i60, i63⟩ c' s' w64 ⟨v62, hs_, HS⟩ h
    rw [has_put hs_]; clear hs_
    try dsimp only at HS
    replace h : F_impl_sharpener_sourced_b2 n_c c_vars p a changed_56 bad_57 Nodes_58 Next_59 i60 i63 = some c' := h
    unfold F_impl_sharpener_sourced_b2 at h
    refine ex_seq ?_
    refine ex_region ?_
    refine ro_lt (r_lss rfl rfl) rfl ?_
    refine RO.nil (nx ?_)
    refine ex_seq ?_
    replace h := ite_some h; rcases h with ⟨c65, h⟩ | ⟨c65, h⟩
    rotate_left
    · refine ex_if_f rfl (decide_eq_false c65) ?_
      refine ex_exit (tq_exit ?_)
      obtain rfl := Option.some.inj h
      exact lq_out ⟨v62, ⟨rfl, rfl, rfl, rfl, rfl, rfl, rfl, trivial⟩, HS⟩
    refine ex_if_t rfl (decide_eq_true c65) ?_
    refine ex_skip (nx ?_)
    refine ex_seq ?_
    refine ex_block ?_
    refine ex_seq ?_
    refine ex_region ?_
    refine ro_lt (r_mv (v := iv i63) rfl) rfl ?_
    refine ro_lt (r_as (v := iv i63) rfl) rfl ?_
    refine RO.nil (nx ?_)
    refine ex_seq ?_
    refine ex_region ?_
    refine ro_lt (r_mv (v := .pointer (some ⟨g_c, 0, none⟩)) rfl) rfl ?_
    refine ro_lt (r_mv (v := iv i63) rfl) rfl ?_
    refine ro_lt (r_mv (v := iv p) rfl) rfl ?_
    replace h := bind_some h; obtain ⟨y66, e67, h⟩ := h
    replace h := grd_some h; obtain ⟨g69, h⟩ := h
    refine ro_hy (o_cs (vs := [.pointer (some ⟨g_c, 0, none⟩), iv i63, iv p]) (c_impl_sharpener_next (HS.sel (G := _ :: _ :: _ :: _ :: FR) [1, 1, 1] 0 rfl).self e67) cf163 rfl) rfl ?_
    rintro _ w68 ⟨rfl, HS2⟩
    replace HS := (HS.sel (G := _ :: _ :: _ :: _ :: FR) [1, 1, 1] 0 rfl).from HS2
    refine ro_lt (r_nc ((HS.rd 2 rfl).int g69.1 g69.2) rfl) rfl ?_
    refine ro_lt (r_ld ((HS.rd 2 rfl).int g69.1 g69.2) sc3 rfl) rfl ?_
    refine ro_lt (r_neq rfl rfl) rfl ?_
    refine ro_lt (r_mv (v := .bool ((!(decide (y66.2.2.1.getD y66.1.toNat 0 = 0))))) rfl) rfl ?_
    replace h := ite_some h; rcases h with ⟨c71, h⟩ | ⟨c71, h⟩
    · refine ro_off (sb (congrArg (!·) (decide_eq_true c71))) rfl rfl ?_
      refine ro_off (sb (congrArg (!·) (decide_eq_true c71))) rfl rfl ?_
      refine ro_off (sb (congrArg (!·) (decide_eq_true c71))) rfl rfl ?_
      refine ro_off (sb (congrArg (!·) (decide_eq_true c71))) rfl rfl ?_
      refine ro_off (sb (congrArg (!·) (decide_eq_true c71))) rfl rfl ?_
      refine ro_off (sb (congrArg (!·) (decide_eq_true c71))) rfl rfl ?_
      refine ro_off (sb (congrArg (!·) (decide_eq_true c71))) rfl rfl ?_
      refine ro_off (sb (congrArg (!·) (decide_eq_true c71))) rfl rfl ?_
      refine ro_off (sb (congrArg (!·) (decide_eq_true c71))) rfl rfl ?_
      refine ro_off (sb (congrArg (!·) (decide_eq_true c71))) rfl rfl ?_
      refine ro_off (sb (congrArg (!·) (decide_eq_true c71))) rfl rfl ?_
      refine ro_off (sb (congrArg (!·) (decide_eq_true c71))) rfl rfl ?_
      refine ro_off (sb (congrArg (!·) (decide_eq_true c71))) rfl rfl ?_
      refine ro_lt (r_pickf (v := .bool false) (congrArg (!·) (decide_eq_true c71)) rfl rfl) rfl ?_
      refine RO.nil (nx ?_)
      refine ex_if_f rfl (rfl) ?_
      refine ex_skip (blk_nx (nx ?_))
      refine ex_region ?_
      refine ro_lt (r_addw rfl rfl) rfl ?_
      refine ro_lt (r_mv (v := iv (wi (i63 + 1))) rfl) rfl ?_
      refine RO.nil ?_
      obtain rfl := Option.some.inj h
      exact lq_go ⟨v62, ⟨rfl, rfl, rfl, rfl, rfl, rfl, rfl, trivial⟩, (HS.sel (G := _ :: _ :: _ :: _ :: FR) [3, 0, 0, 0] 0 rfl)⟩
    refine ro_on (sb (congrArg (!·) (decide_eq_false c71))) ?_
    refine ro_lt (r_mv (v := .pointer (some ⟨g_c, 0, none⟩)) rfl) rfl ?_
    refine ro_on (sb (congrArg (!·) (decide_eq_false c71))) ?_
    refine ro_lt (r_nc (HS.boxAt 0 rfl) rfl) rfl ?_
    refine ro_on (sb (congrArg (!·) (decide_eq_false c71))) ?_
    refine ro_lt (r_fa (HS.boxAt 0 rfl) fd95_0 rfl) rfl ?_
    refine ro_on (sb (congrArg (!·) (decide_eq_false c71))) ?_
    refine ro_lt (r_fa ((HS.boxAt 0 rfl).seg 0 2) fd27_0 rfl) rfl ?_
    refine ro_on (sb (congrArg (!·) (decide_eq_false c71))) ?_
    refine ro_lt (r_ld (((HS.boxAt 0 rfl).seg 0 2).seg 0 1) sc24 rfl) rfl ?_
    refine ro_on (sb (congrArg (!·) (decide_eq_false c71))) ?_
    refine ro_lt (r_mv (v := iv i63) rfl) rfl ?_
    replace h := grd_some h; obtain ⟨g72, h⟩ := h
    refine ro_on (sb (congrArg (!·) (decide_eq_false c71))) ?_
    refine ro_lt (r_ian HS (k := 1) rfl sl24 g72.1 g72.2 rfl rfl) rfl ?_
    refine ro_on (sb (congrArg (!·) (decide_eq_false c71))) ?_
    refine ro_lt (r_fa (HS.nsAt 1 rfl (i := i63.toNat) (by omega)) fd72_1 rfl) rfl ?_
    refine ro_on (sb (congrArg (!·) (decide_eq_false c71))) ?_
    refine ro_lt (r_ld (v := (sh_c i63.toNat).2) ((HS.nsAt 1 rfl (i := i63.toNat) (by omega)).seg 1 1) sc25 rfl) rfl ?_
    refine ro_on (sb (congrArg (!·) (decide_eq_false c71))) ?_
    refine ro_lt (r_mv (v := iv a) rfl) rfl ?_
    replace h := grd_some h; obtain ⟨g73, h⟩ := h
    refine ro_on (sb (congrArg (!·) (decide_eq_false c71))) ?_
    refine ro_lt (r_ia (HS.nsR2 1 rfl (i := i63.toNat) (by omega)) sl25 g73.1 g73.2 rfl rfl) rfl ?_
    refine ro_on (sb (congrArg (!·) (decide_eq_false c71))) ?_
    refine ro_lt (r_ld ((HS.nsR2 1 rfl (i := i63.toNat) (by omega)).int g73.1 g73.2) sc3 rfl) rfl ?_
    refine ro_on (sb (congrArg (!·) (decide_eq_false c71))) ?_
    refine ro_lt (r_neq rfl rfl) rfl ?_
    refine ro_lt (r_pickt (v := .bool ((!(decide (((y66.2.1.getD i63.toNat dN).2.1).getD a.toNat 0 = 0))))) (congrArg (!·) (decide_eq_false c71)) rfl rfl) rfl ?_
    refine RO.nil (nx ?_)
    replace h := ite_some h; rcases h with ⟨c74, h⟩ | ⟨c74, h⟩
    · refine ex_if_f rfl (congrArg (!·) (decide_eq_true c74)) ?_
      refine ex_skip (blk_nx (nx ?_))
      refine ex_region ?_
      refine ro_lt (r_addw rfl rfl) rfl ?_
      refine ro_lt (r_mv (v := iv (wi (i63 + 1))) rfl) rfl ?_
      refine RO.nil ?_
      obtain rfl := Option.some.inj h
      exact lq_go ⟨v62, ⟨rfl, rfl, rfl, rfl, rfl, rfl, rfl, trivial⟩, (HS.sel (G := _ :: _ :: _ :: _ :: FR) [3, 0, 0, 0] 0 rfl)⟩
    refine ex_if_t rfl (congrArg (!·) (decide_eq_false c74)) ?_
    refine ex_region ?_
    refine ro_lt (r_mv (v := v62) rfl) rfl ?_
    refine ro_lt (r_mv (v := iv i63) rfl) rfl ?_
    refine ro_hy (o_bsv HS (cs := [iv i63]) sl25 zz3 (vs := [iv i63]) rfl rfl (vc rfl vc0) rfl rfl (by decide)) rfl ?_
    rintro _ w76 ⟨g75, rfl, hb, HS⟩
    replace h := grd_some h; obtain ⟨g78, h⟩ := h
    refine ro_hy (o_appf (HS.sel (G := _ :: _ :: _ :: _ :: _ :: FR) [4] 0 rfl) rfl rfl rfl rfl sl25 zz3 g78) rfl ?_
    rintro v80 w81 ⟨HS, hk⟩
    refine ro_lt (r_as (v := v80) rfl) rfl ?_
    refine RO.nil (blk_nx (nx ?_))
    refine ex_region ?_
    refine ro_lt (r_addw rfl rfl) rfl ?_
    refine ro_lt (r_mv (v := iv (wi (i63 + 1))) rfl) rfl ?_
    refine RO.nil ?_
    obtain rfl := Option.some.inj h
    exact lq_go ⟨v80, ⟨rfl, rfl, rfl, rfl, rfl, rfl, rfl, trivial⟩, HS⟩
  rintro s' w85 ⟨v62, hs_, HS⟩
  rw [has_put hs_]; clear hs_
  refine (nx ?_)
  refine ex_block ?_
  refine ex_seq ?_
  refine ex_region ?_
  refine ro_lt (r_mv (v := v62) rfl) rfl ?_
  have b87 := (HS.rd 0 rfl).big
  refine ro_lt (r_len (n := 1) (HS.rd 0 rfl) sl25 rfl) rfl ?_
  refine ro_lt (r_eql rfl rfl) rfl ?_
  refine ro_lt (r_as (v := .bool ((decide ((y83.2.2.2.2.1.length : Int) = 0)))) rfl) rfl ?_
  refine RO.nil (nx ?_)
  replace h := ite_some h; rcases h with ⟨c88, h⟩ | ⟨c88, h⟩
  · refine ex_if_t rfl (decide_eq_true c88) ?_
    refine ex_region ?_
    refine ro_lt (r_mv (v := .pointer (some ⟨g_c, 0, none⟩)) rfl) rfl ?_
    refine ro_lt (r_mv (v := (eaddr v_c_Nodes (p.toNat * 4))) rfl) rfl ?_
    refine ro_lt (r_nc (HS.nsAt 2 rfl (i := p.toNat) (by omega)) rfl) rfl ?_
    refine ro_lt (r_fa (HS.nsAt 2 rfl (i := p.toNat) (by omega)) fd72_1 rfl) rfl ?_
    refine ro_lt (r_ld (v := (sh_c p.toNat).2) ((HS.nsAt 2 rfl (i := p.toNat) (by omega)).seg 1 1) sc25 rfl) rfl ?_
    refine ro_lt (r_mv (v := iv a) rfl) rfl ?_
    replace h := grd_some h; obtain ⟨g89, h⟩ := h
    refine ro_lt (r_ia (HS.nsR2 2 rfl (i := p.toNat) (by omega)) sl25 g89.1 g89.2 rfl rfl) rfl ?_
    replace h := bind_some h; obtain ⟨y91, e92, h⟩ := h
    refine ro_hy (o_cs (vs := [.pointer (some ⟨g_c, 0, none⟩), eaddr (sh_c p.toNat).2 (a.toNat * 1), iv 0]) (c_set_r2 (HS.sel (G := _ :: _ :: _ :: _ :: FR) [1, 1] 0 rfl).self g4.1 g4.2 g89.1 g89.2 e92) cf161 rfl) rfl ?_
    rintro _ w90 ⟨rfl, HS2⟩
    replace HS := (HS.sel (G := _ :: _ :: _ :: _ :: FR) [1, 1] 0 rfl).from HS2
    refine RO.nil (blk_nx (nx ?_))
    refine ex_seq ?_
    refine ex_region ?_
    refine ro_lt (r_mv (v := .pointer (some ⟨g_c, 0, none⟩)) rfl) rfl ?_
    refine ro_lt (r_nc (HS.boxAt 0 rfl) rfl) rfl ?_
    refine ro_lt (r_fa (HS.boxAt 0 rfl) fd95_0 rfl) rfl ?_
    refine ro_lt (r_fa ((HS.boxAt 0 rfl).seg 0 2) fd27_0 rfl) rfl ?_
    refine ro_lt (r_ld (((HS.boxAt 0 rfl).seg 0 2).seg 0 1) sc24 rfl) rfl ?_
    refine ro_lt (r_lenn (m := 4) HS (k := 1) rfl sl24 rfl) rfl ?_
    refine ro_lt (r_mv (v := iv 0) rfl) rfl ?_
    refine RO.nil (nx ?_)
    replace h := bind_some h; obtain ⟨y114, e115, h⟩ := h
    refine ex_lbo (fun (st : Bool × Bool × (List (List Int × List Int × Int × Int)) × Int) s' w' => Has s' [(0, .pointer (some ⟨g_c, 0, none⟩)), (1, iv a), (2, iv p), (6, (eaddr v_c_Nodes (p.toNat * 4))), (147, iv ((n_c : Int))), (148, iv st.2.2.2)] ∧ St w H w' (.bx g_c 95 [v_c_Nodes, v_c_Next, iv c_vars, .bool st.1, .bool st.2.1] :: .pr (NS 72 3 n_c v_c_Nodes sh_c st.2.2.1) :: .ow (.sl 3 (.int .i64)) y83.2.2.2.2.1 [v62] :: .ow (.sl 3 (.int .i64)) y83.2.2.2.1 [v_c_Next] :: FR)) e115 ⟨⟨rfl, rfl, rfl, rfl, rfl, rfl, trivial⟩, HS⟩ ?_ ?_
    · rintro ⟨changed_96, bad_97, Nodes_98, i99⟩ c' s' w100 ⟨hs_, HS⟩ h
      rw [has_put hs_]; clear hs_
      try dsimp only at HS
      replace h : F_impl_sharpener_sourced_b3 n_c a y83 p changed_96 bad_97 Nodes_98 i99 = some c' := h
      unfold F_impl_sharpener_sourced_b3 at h
      refine ex_seq ?_
      refine ex_region ?_
      refine ro_lt (r_lss rfl rfl) rfl ?_
      refine RO.nil (nx ?_)
      refine ex_seq ?_
      replace h := ite_some h; rcases h with ⟨c101, h⟩ | ⟨c101, h⟩
      rotate_left
      · refine ex_if_f rfl (decide_eq_false c101) ?_
        refine ex_exit (tq_exit ?_)
        obtain rfl := Option.some.inj h
        exact lq_out ⟨⟨rfl, rfl, rfl, rfl, rfl, rfl, trivial⟩, HS⟩
      refine ex_if_t rfl (decide_eq_true c101) ?_
      refine ex_skip (nx ?_)
      refine ex_seq ?_
      refine ex_block ?_
      refine ex_seq ?_
      refine ex_region ?_
      refine ro_lt (r_mv (v := iv i99) rfl) rfl ?_
      refine ro_lt (r_as (v := iv i99) rfl) rfl ?_
      refine RO.nil (nx ?_)
      refine ex_seq ?_
      refine ex_region ?_
      refine ro_lt (r_mv (v := .pointer (some ⟨g_c, 0, none⟩)) rfl) rfl ?_
      refine ro_lt (r_nc (HS.boxAt 0 rfl) rfl) rfl ?_
      refine ro_lt (r_fa (HS.boxAt 0 rfl) fd95_0 rfl) rfl ?_
      refine ro_lt (r_fa ((HS.boxAt 0 rfl).seg 0 2) fd27_0 rfl) rfl ?_
      refine ro_lt (r_ld (((HS.boxAt 0 rfl).seg 0 2).seg 0 1) sc24 rfl) rfl ?_
      refine ro_lt (r_mv (v := iv i99) rfl) rfl ?_
      replace h := grd_some h; obtain ⟨g102, h⟩ := h
      refine ro_lt (r_ian HS (k := 1) rfl sl24 g102.1 g102.2 rfl rfl) rfl ?_
      refine ro_lt (r_fa (HS.nsAt 1 rfl (i := i99.toNat) (by omega)) fd72_0 rfl) rfl ?_
      refine ro_lt (r_ld (v := (sh_c i99.toNat).1) ((HS.nsAt 1 rfl (i := i99.toNat) (by omega)).seg 0 1) sc25 rfl) rfl ?_
      refine ro_lt (r_mv (v := iv a) rfl) rfl ?_
      replace h := grd_some h; obtain ⟨g103, h⟩ := h
      refine ro_lt (r_ia (HS.nsR1 1 rfl (i := i99.toNat) (by omega)) sl25 g103.1 g103.2 rfl rfl) rfl ?_
      refine ro_lt (r_ld ((HS.nsR1 1 rfl (i := i99.toNat) (by omega)).int g103.1 g103.2) sc3 rfl) rfl ?_
      refine ro_lt (r_eql rfl rfl) rfl ?_
      refine ro_lt (r_mv (v := .bool ((decide (((Nodes_98.getD i99.toNat dN).1).getD a.toNat 0 = 2)))) rfl) rfl ?_
      replace h := ite_some h; rcases h with ⟨c104, h⟩ | ⟨c104, h⟩
      rotate_left
      · refine ro_off (sb (decide_eq_false c104)) rfl rfl ?_
        refine ro_off (sb (decide_eq_false c104)) rfl rfl ?_
        refine ro_off (sb (decide_eq_false c104)) rfl rfl ?_
        refine ro_off (sb (decide_eq_false c104)) rfl rfl ?_
        refine ro_off (sb (decide_eq_false c104)) rfl rfl ?_
        refine ro_off (sb (decide_eq_false c104)) rfl rfl ?_
        refine ro_off (sb (decide_eq_false c104)) rfl rfl ?_
        refine ro_off (sb (decide_eq_false c104)) rfl rfl ?_
        refine ro_lt (r_pickf (v := .bool false) (decide_eq_false c104) rfl rfl) rfl ?_
        refine RO.nil (nx ?_)
        refine ex_if_f rfl (rfl) ?_
        refine ex_skip (blk_nx (nx ?_))
        refine ex_region ?_
        refine ro_lt (r_addw rfl rfl) rfl ?_
        refine ro_lt (r_mv (v := iv (wi (i99 + 1))) rfl) rfl ?_
        refine RO.nil ?_
        obtain rfl := Option.some.inj h
        exact lq_go ⟨⟨rfl, rfl, rfl, rfl, rfl, rfl, trivial⟩, HS⟩
      refine ro_on (sb (decide_eq_true c104)) ?_
      refine ro_lt (r_mv (v := .pointer (some ⟨g_c, 0, none⟩)) rfl) rfl ?_
      refine ro_on (sb (decide_eq_true c104)) ?_
      refine ro_lt (r_nc (HS.boxAt 0 rfl) rfl) rfl ?_
      refine ro_on (sb (decide_eq_true c104)) ?_
      refine ro_lt (r_fa (HS.boxAt 0 rfl) fd95_0 rfl) rfl ?_
      refine ro_on (sb (decide_eq_true c104)) ?_
      refine ro_lt (r_lda ((HS.boxAt 0 rfl).seg 0 2) ag27 rfl rfl) rfl ?_
      refine ro_on (sb (decide_eq_true c104)) ?_
      refine ro_lt (r_mv (v := iv i99) rfl) rfl ?_
      refine ro_on (sb (decide_eq_true c104)) ?_
      refine ro_lt (r_mv (v := iv p) rfl) rfl ?_
      replace h := bind_some h; obtain ⟨y105, e106, h⟩ := h
      refine ro_on (sb (decide_eq_true c104)) ?_
      refine ro_hy (o_cf (vs := [.agg #[v_c_Nodes, v_c_Next], iv i99, iv p]) HS rfl (c_impl_PathOf (HS.nsRd 1 rfl) (HS.rd 3 rfl) e106) cf164 rfl) rfl ?_
      rintro _ w107 ⟨rfl, hb, HS⟩
      refine ro_on (sb (decide_eq_true c104)) ?_
      refine ro_lt (r_eql rfl rfl) rfl ?_
      refine ro_lt (r_pickt (v := .bool ((decide (y105 = 0)))) (decide_eq_true c104) rfl rfl) rfl ?_
      refine RO.nil (nx ?_)
      replace h := ite_some h; rcases h with ⟨c108, h⟩ | ⟨c108, h⟩
      rotate_left
      · refine ex_if_f rfl (decide_eq_false c108) ?_
        refine ex_skip (blk_nx (nx ?_))
        refine ex_region ?_
        refine ro_lt (r_addw rfl rfl) rfl ?_
        refine ro_lt (r_mv (v := iv (wi (i99 + 1))) rfl) rfl ?_
        refine RO.nil ?_
        obtain rfl := Option.some.inj h
        exact lq_go ⟨⟨rfl, rfl, rfl, rfl, rfl, rfl, trivial⟩, HS⟩
      refine ex_if_t rfl (decide_eq_true c108) ?_
      refine ex_region ?_
      refine ro_lt (r_mv (v := .pointer (some ⟨g_c, 0, none⟩)) rfl) rfl ?_
      refine ro_lt (r_mv (v := (eaddr v_c_Nodes (p.toNat * 4))) rfl) rfl ?_
      refine ro_lt (r_nc (HS.nsAt 1 rfl (i := p.toNat) (by omega)) rfl) rfl ?_
      refine ro_lt (r_fa (HS.nsAt 1 rfl (i := p.toNat) (by omega)) fd72_1 rfl) rfl ?_
      refine ro_lt (r_ld (v := (sh_c p.toNat).2) ((HS.nsAt 1 rfl (i := p.toNat) (by omega)).seg 1 1) sc25 rfl) rfl ?_
      refine ro_lt (r_mv (v := iv a) rfl) rfl ?_
      replace h := grd_some h; obtain ⟨g109, h⟩ := h
      refine ro_lt (r_ia (HS.nsR2 1 rfl (i := p.toNat) (by omega)) sl25 g109.1 g109.2 rfl rfl) rfl ?_
      replace h := bind_some h; obtain ⟨y111, e112, h⟩ := h
      refine ro_hy (o_cs (vs := [.pointer (some ⟨g_c, 0, none⟩), eaddr (sh_c p.toNat).2 (a.toNat * 1), iv 0]) (c_set_r2 HS.self g4.1 g4.2 g109.1 g109.2 e112) cf161 rfl) rfl ?_
      rintro _ w110 ⟨rfl, HS2⟩
      replace HS := HS.from HS2
      refine RO.nil (blk_nx (nx ?_))
      refine ex_region ?_
      refine ro_lt (r_addw rfl rfl) rfl ?_
      refine ro_lt (r_mv (v := iv (wi (i99 + 1))) rfl) rfl ?_
      refine RO.nil ?_
      obtain rfl := Option.some.inj h
      exact lq_go ⟨⟨rfl, rfl, rfl, rfl, rfl, rfl, trivial⟩, HS⟩
    rintro s' w116 ⟨hs_, HS⟩
    rw [has_put hs_]; clear hs_
    obtain rfl := Option.some.inj h
    exact ret0 (.inl rfl) rfl ⟨rfl, (HS.sel (G := _ :: _ :: _ :: FR) [0, 0, 1] 1 rfl)⟩
  refine ex_if_f rfl (decide_eq_false c88) ?_
  refine ex_seq ?_
  refine ex_dr (Mm H [11, 14, 21, 31]) (Phi g_c (fun (a : Bool × Bool) => [v_c_Nodes, v_c_Next, iv c_vars, .bool a.1, .bool a.2]) v_c_Nodes n_c sh_c) [0, 1, 3, 7, 15, 31, 63, 127, 255, 15, 527, 1551, 4095, 8191, 16383, 32767, 65535, 131071, 262143, 524287, 1048575, 2097151, 4194303, 8388607, 16777215, 33554431, 67108863, 134217727, 268435455, 33554431, 1073741823, 2147483647, 4294967295, 8589934591, 17179869183] [] (.op 0 (.op 1 (.op 2 (.op 3 (.op 4 (.op 5 (.op 6 (.op 7 (.op 8 (.op 9 (.op 10 (.op 11 (.op 12 (.op 13 (.op 14 (.op 15 (.op 16 (.op 17 (.op 18 (.op 19 (.op 20 (.op 21 (.op 22 (.op 23 (.op 24 (.op 25 (.op 26 (.op 27 (.op 28 (.op 29 (.op 30 (.op 31 (.op 32 (.op 33 (.op 34 .nil))))))))))))))))))))))))))))))))))) mix (by kernel_rfl) (by kernel_rfl) ?_
  intro w118 hw hb; have HS := HS.ext hb; clear hw hb
  refine RT.lt rfl rfl rfl rfl (fun w' k => r_mv (v := v62) rfl) ?_
  refine RT.lt rfl rfl rfl rfl (fun w' k => r_len (n := 1) (HS.rd 0 rfl) sl25 rfl) ?_
  refine RT.lt rfl rfl rfl rfl (fun w' k => r_eql rfl rfl) ?_
  refine RT.lt rfl rfl rfl rfl (fun w' k => r_mv (v := .bool ((decide ((y83.2.2.2.2.1.length : Int) = 1)))) rfl) ?_
  replace h := ite_some h; rcases h with ⟨c119, h⟩ | ⟨c119, h⟩
  rotate_left
  · refine RT.sk rfl rfl rfl (want_off rfl (sb (decide_eq_false c119)) rfl) ?_
    refine RT.sk rfl rfl rfl (want_off rfl (sb (decide_eq_false c119)) rfl) ?_
    refine RT.sk rfl rfl rfl (want_off rfl (sb (decide_eq_false c119)) rfl) ?_
    refine RT.sk rfl rfl rfl (want_off rfl (sb (decide_eq_false c119)) rfl) ?_
    refine RT.sk rfl rfl rfl (want_off rfl (sb (decide_eq_false c119)) rfl) ?_
    refine RT.sk rfl rfl rfl (want_off rfl (sb (decide_eq_false c119)) rfl) ?_
    refine RT.sk rfl rfl rfl (want_off rfl (sb (decide_eq_false c119)) rfl) ?_
    refine RT.sk rfl rfl rfl (want_off rfl (sb (decide_eq_false c119)) rfl) ?_
    refine RT.sk rfl rfl rfl (want_off rfl (sb (decide_eq_false c119)) rfl) ?_
    refine RT.sk rfl rfl rfl (want_off rfl (sb (decide_eq_false c119)) rfl) ?_
    refine RT.sk rfl rfl rfl (want_off rfl (sb (decide_eq_false c119)) rfl) ?_
    refine RT.sk rfl rfl rfl (want_off rfl (sb (decide_eq_false c119)) rfl) ?_
    refine RT.lt rfl rfl rfl rfl (fun w' k => r_pickf (v := .bool false) (decide_eq_false c119) rfl rfl) ?_
    refine RT.lt rfl rfl rfl rfl (fun w' k => r_mv (v := .bool false) rfl) ?_
    refine RT.sk rfl rfl rfl (want_off rfl (sb (rfl)) rfl) ?_
    refine RT.sk rfl rfl rfl (want_off rfl (sb (rfl)) rfl) ?_
    refine RT.sk rfl rfl rfl (want_off rfl (sb (rfl)) rfl) ?_
    refine RT.sk rfl rfl rfl (want_off rfl (sb (rfl)) rfl) ?_
    refine RT.sk rfl rfl rfl (want_off rfl (sb (rfl)) rfl) ?_
    refine RT.lt rfl rfl rfl rfl (fun w' k => r_pickf (v := .bool false) (rfl) rfl rfl) ?_
    refine RT.lt rfl rfl rfl rfl (fun w' k => r_mv (v := .bool false) rfl) ?_
    refine RT.sk rfl rfl rfl (want_off rfl (sb (rfl)) rfl) ?_
    refine RT.sk rfl rfl rfl (want_off rfl (sb (rfl)) rfl) ?_
    refine RT.sk rfl rfl rfl (want_off rfl (sb (rfl)) rfl) ?_
    refine RT.sk rfl rfl rfl (want_off rfl (sb (rfl)) rfl) ?_
    refine RT.sk rfl rfl rfl (want_off rfl (sb (rfl)) rfl) ?_
    refine RT.sk rfl rfl rfl (want_off rfl (sb (rfl)) rfl) ?_
    refine RT.sk rfl rfl rfl (want_off rfl (sb (rfl)) rfl) ?_
    refine RT.sk rfl rfl rfl (want_off rfl (sb (rfl)) rfl) ?_
    refine RT.lt rfl rfl rfl rfl (fun w' k => r_pickf (v := .bool false) (rfl) rfl rfl) ?_
    refine RT.lt rfl rfl rfl rfl (fun w' k => r_as (v := .bool false) rfl) ?_
    refine RT.nil (nx ?_)
    refine ex_if_f rfl (rfl) ?_
    refine ex_skip (blk_nx (nx ?_))
    refine ex_seq ?_
    refine ex_region ?_
    refine ro_lt (r_mv (v := .pointer (some ⟨g_c, 0, none⟩)) rfl) rfl ?_
    refine ro_lt (r_nc (HS.boxAt 1 rfl) rfl) rfl ?_
    refine ro_lt (r_fa (HS.boxAt 1 rfl) fd95_0 rfl) rfl ?_
    refine ro_lt (r_fa ((HS.boxAt 1 rfl).seg 0 2) fd27_0 rfl) rfl ?_
    refine ro_lt (r_ld (((HS.boxAt 1 rfl).seg 0 2).seg 0 1) sc24 rfl) rfl ?_
    refine ro_lt (r_lenn (m := 4) HS (k := 2) rfl sl24 rfl) rfl ?_
    refine ro_lt (r_mv (v := iv 0) rfl) rfl ?_
    refine RO.nil (nx ?_)
    replace h := bind_some h; obtain ⟨y257, e258, h⟩ := h
    refine ex_lbo (fun (st : Bool × Bool × (List (List Int × List Int × Int × Int)) × Int) s' w' => Has s' [(0, .pointer (some ⟨g_c, 0, none⟩)), (1, iv a), (2, iv p), (6, (eaddr v_c_Nodes (p.toNat * 4))), (147, iv ((n_c : Int))), (148, iv st.2.2.2)] ∧ St w H w' (.ow (.sl 3 (.int .i64)) y83.2.2.2.2.1 [v62] :: .bx g_c 95 [v_c_Nodes, v_c_Next, iv c_vars, .bool st.1, .bool st.2.1] :: .pr (NS 72 3 n_c v_c_Nodes sh_c st.2.2.1) :: .ow (.sl 3 (.int .i64)) y83.2.2.2.1 [v_c_Next] :: FR)) e258 ⟨⟨rfl, rfl, rfl, rfl, rfl, rfl, trivial⟩, HS⟩ ?_ ?_
    · rintro ⟨changed_239, bad_240, Nodes_241, i242⟩ c' s' w243 ⟨hs_, HS⟩ h
      rw [has_put hs_]; clear hs_
      try dsimp only at HS
      replace h : F_impl_sharpener_sourced_b3 n_c a y83 p changed_239 bad_240 Nodes_241 i242 = some c' := h
      unfold F_impl_sharpener_sourced_b3 at h
      refine ex_seq ?_
      refine ex_region ?_
      refine ro_lt (r_lss rfl rfl) rfl ?_
      refine RO.nil (nx ?_)
      refine ex_seq ?_
      replace h := ite_some h; rcases h with ⟨c244, h⟩ | ⟨c244, h⟩
      rotate_left
      · refine ex_if_f rfl (decide_eq_false c244) ?_
        refine ex_exit (tq_exit ?_)
        obtain rfl := Option.some.inj h
        exact lq_out ⟨⟨rfl, rfl, rfl, rfl, rfl, rfl, trivial⟩, HS⟩
      refine ex_if_t rfl (decide_eq_true c244) ?_
      refine ex_skip (nx ?_)
      refine ex_seq ?_
      refine ex_block ?_
      refine ex_seq ?_
      refine ex_region ?_
      refine ro_lt (r_mv (v := iv i242) rfl) rfl ?_
      refine ro_lt (r_as (v := iv i242) rfl) rfl ?_
      refine RO.nil (nx ?_)
      refine ex_seq ?_
      refine ex_region ?_
      refine ro_lt (r_mv (v := .pointer (some ⟨g_c, 0, none⟩)) rfl) rfl ?_
      refine ro_lt (r_nc (HS.boxAt 1 rfl) rfl) rfl ?_
      refine ro_lt (r_fa (HS.boxAt 1 rfl) fd95_0 rfl) rfl ?_
      refine ro_lt (r_fa ((HS.boxAt 1 rfl).seg 0 2) fd27_0 rfl) rfl ?_
      refine ro_lt (r_ld (((HS.boxAt 1 rfl).seg 0 2).seg 0 1) sc24 rfl) rfl ?_
      refine ro_lt (r_mv (v := iv i242) rfl) rfl ?_
      replace h := grd_some h; obtain ⟨g245, h⟩ := h
      refine ro_lt (r_ian HS (k := 2) rfl sl24 g245.1 g245.2 rfl rfl) rfl ?_
      refine ro_lt (r_fa (HS.nsAt 2 rfl (i := i242.toNat) (by omega)) fd72_0 rfl) rfl ?_
      refine ro_lt (r_ld (v := (sh_c i242.toNat).1) ((HS.nsAt 2 rfl (i := i242.toNat) (by omega)).seg 0 1) sc25 rfl) rfl ?_
      refine ro_lt (r_mv (v := iv a) rfl) rfl ?_
      replace h := grd_some h; obtain ⟨g246, h⟩ := h
      refine ro_lt (r_ia (HS.nsR1 2 rfl (i := i242.toNat) (by omega)) sl25 g246.1 g246.2 rfl rfl) rfl ?_
      refine ro_lt (r_ld ((HS.nsR1 2 rfl (i := i242.toNat) (by omega)).int g246.1 g246.2) sc3 rfl) rfl ?_
      refine ro_lt (r_eql rfl rfl) rfl ?_
      refine ro_lt (r_mv (v := .bool ((decide (((Nodes_241.getD i242.toNat dN).1).getD a.toNat 0 = 2)))) rfl) rfl ?_
      replace h := ite_some h; rcases h with ⟨c247, h⟩ | ⟨c247, h⟩
      rotate_left
      · refine ro_off (sb (decide_eq_false c247)) rfl rfl ?_
        refine ro_off (sb (decide_eq_false c247)) rfl rfl ?_
        refine ro_off (sb (decide_eq_false c247)) rfl rfl ?_
        refine ro_off (sb (decide_eq_false c247)) rfl rfl ?_
        refine ro_off (sb (decide_eq_false c247)) rfl rfl ?_
        refine ro_off (sb (decide_eq_false c247)) rfl rfl ?_
        refine ro_off (sb (decide_eq_false c247)) rfl rfl ?_
        refine ro_off (sb (decide_eq_false c247)) rfl rfl ?_
        refine ro_lt (r_pickf (v := .bool false) (decide_eq_false c247) rfl rfl) rfl ?_
        refine RO.nil (nx ?_)
        refine ex_if_f rfl (rfl) ?_
        refine ex_skip (blk_nx (nx ?_))
        refine ex_region ?_
        refine ro_lt (r_addw rfl rfl) rfl ?_
        refine ro_lt (r_mv (v := iv (wi (i242 + 1))) rfl) rfl ?_
        refine RO.nil ?_
        obtain rfl := Option.some.inj h
        exact lq_go ⟨⟨rfl, rfl, rfl, rfl, rfl, rfl, trivial⟩, HS⟩
      refine ro_on (sb (decide_eq_true c247)) ?_
      refine ro_lt (r_mv (v := .pointer (some ⟨g_c, 0, none⟩)) rfl) rfl ?_
      refine ro_on (sb (decide_eq_true c247)) ?_
      refine ro_lt (r_nc (HS.boxAt 1 rfl) rfl) rfl ?_
      refine ro_on (sb (decide_eq_true c247)) ?_
      refine ro_lt (r_fa (HS.boxAt 1 rfl) fd95_0 rfl) rfl ?_
      refine ro_on (sb (decide_eq_true c247)) ?_
      refine ro_lt (r_lda ((HS.boxAt 1 rfl).seg 0 2) ag27 rfl rfl) rfl ?_
      refine ro_on (sb (decide_eq_true c247)) ?_
      refine ro_lt (r_mv (v := iv i242) rfl) rfl ?_
      refine ro_on (sb (decide_eq_true c247)) ?_
      refine ro_lt (r_mv (v := iv p) rfl) rfl ?_
      replace h := bind_some h; obtain ⟨y248, e249, h⟩ := h
      refine ro_on (sb (decide_eq_true c247)) ?_
      refine ro_hy (o_cf (vs := [.agg #[v_c_Nodes, v_c_Next], iv i242, iv p]) HS rfl (c_impl_PathOf (HS.nsRd 2 rfl) (HS.rd 3 rfl) e249) cf164 rfl) rfl ?_
      rintro _ w250 ⟨rfl, hb, HS⟩
      refine ro_on (sb (decide_eq_true c247)) ?_
      refine ro_lt (r_eql rfl rfl) rfl ?_
      refine ro_lt (r_pickt (v := .bool ((decide (y248 = 0)))) (decide_eq_true c247) rfl rfl) rfl ?_
      refine RO.nil (nx ?_)
      replace h := ite_some h; rcases h with ⟨c251, h⟩ | ⟨c251, h⟩
      rotate_left
      · refine ex_if_f rfl (decide_eq_false c251) ?_
        refine ex_skip (blk_nx (nx ?_))
        refine ex_region ?_
        refine ro_lt (r_addw rfl rfl) rfl ?_
        refine ro_lt (r_mv (v := iv (wi (i242 + 1))) rfl) rfl ?_
        refine RO.nil ?_
        obtain rfl := Option.some.inj h
        exact lq_go ⟨⟨rfl, rfl, rfl, rfl, rfl, rfl, trivial⟩, HS⟩
      refine ex_if_t rfl (decide_eq_true c251) ?_
      refine ex_region ?_
      refine ro_lt (r_mv (v := .pointer (some ⟨g_c, 0, none⟩)) rfl) rfl ?_
      refine ro_lt (r_mv (v := (eaddr v_c_Nodes (p.toNat * 4))) rfl) rfl ?_
      refine ro_lt (r_nc (HS.nsAt 2 rfl (i := p.toNat) (by omega)) rfl) rfl ?_
      refine ro_lt (r_fa (HS.nsAt 2 rfl (i := p.toNat) (by omega)) fd72_1 rfl) rfl ?_
      refine ro_lt (r_ld (v := (sh_c p.toNat).2) ((HS.nsAt 2 rfl (i := p.toNat) (by omega)).seg 1 1) sc25 rfl) rfl ?_
      refine ro_lt (r_mv (v := iv a) rfl) rfl ?_
      replace h := grd_some h; obtain ⟨g252, h⟩ := h
      refine ro_lt (r_ia (HS.nsR2 2 rfl (i := p.toNat) (by omega)) sl25 g252.1 g252.2 rfl rfl) rfl ?_
      replace h := bind_some h; obtain ⟨y254, e255, h⟩ := h
      refine ro_hy (o_cs (vs := [.pointer (some ⟨g_c, 0, none⟩), eaddr (sh_c p.toNat).2 (a.toNat * 1), iv 0]) (c_set_r2 (HS.sel (G := _ :: _ :: _ :: _ :: FR) [1, 1] 0 rfl).self g4.1 g4.2 g252.1 g252.2 e255) cf161 rfl) rfl ?_
      rintro _ w253 ⟨rfl, HS2⟩
      replace HS := (HS.sel (G := _ :: _ :: _ :: _ :: FR) [1, 1] 0 rfl).from HS2
      refine RO.nil (blk_nx (nx ?_))
      refine ex_region ?_
      refine ro_lt (r_addw rfl rfl) rfl ?_
      refine ro_lt (r_mv (v := iv (wi (i242 + 1))) rfl) rfl ?_
      refine RO.nil ?_
      obtain rfl := Option.some.inj h
      exact lq_go ⟨⟨rfl, rfl, rfl, rfl, rfl, rfl, trivial⟩, (HS.sel (G := _ :: _ :: _ :: _ :: FR) [2, 0, 0, 0] 0 rfl)⟩
    rintro s' w259 ⟨hs_, HS⟩
    rw [has_put hs_]; clear hs_
    obtain rfl := Option.some.inj h
    exact ret0 (.inl rfl) rfl ⟨rfl, (HS.sel (G := _ :: _ :: _ :: FR) [1, 1, 1] 1 rfl)⟩
  refine RT.lt rfl rfl rfl (want_on rfl (sb (decide_eq_true c119))) (fun w' k => r_mv (v := .pointer (some ⟨g_c, 0, none⟩)) rfl) ?_
  refine RT.lt rfl rfl rfl (want_on rfl (sb (decide_eq_true c119))) (fun w' k => r_nc (HS.boxAt 1 rfl) rfl) ?_
  refine RT.lt rfl rfl rfl (want_on rfl (sb (decide_eq_true c119))) (fun w' k => r_fa (HS.boxAt 1 rfl) fd95_0 rfl) ?_
  refine RT.lt rfl rfl rfl (want_on rfl (sb (decide_eq_true c119))) (fun w' k => r_fa ((HS.boxAt 1 rfl).seg 0 2) fd27_0 rfl) ?_
  refine RT.lt rfl rfl rfl (want_on rfl (sb (decide_eq_true c119))) (fun w' k => r_ld (exGet (exSeg (exSeg (k.phi (Phi.of (f := (fun (a : Bool × Bool) => [v_c_Nodes, v_c_Next, iv c_vars, .bool a.1, .bool a.2])) (y83.1, y83.2.1) HS 1 2 rfl rfl)).1 0 2) 0 1) fun _ => rfl) sc24 rfl) ?_
  refine RT.lt rfl rfl rfl (want_on rfl (sb (decide_eq_true c119))) (fun w' k => r_mv (v := v62) rfl) ?_
  replace h := grd_some h; obtain ⟨g120, h⟩ := h
  refine RT.lt rfl rfl rfl (want_on rfl (sb (decide_eq_true c119))) (fun w' k => r_ia (HS.rd 0 rfl) sl25 (by omega) g120 rfl rfl) ?_
  refine RT.lt rfl rfl rfl (want_on rfl (sb (decide_eq_true c119))) (fun w' k => r_ld (((HS.rd 0 rfl).int (by omega) g120).k0 (Sub.refl _) (k.kp.none rfl)) sc3 rfl) ?_
  replace h := grd_some h; obtain ⟨g121, h⟩ := h
  refine RT.lt rfl rfl rfl (want_on rfl (sb (decide_eq_true c119))) (fun w' k => r_ian HS (k := 2) rfl sl24 g121.1 g121.2 rfl rfl) ?_
  refine RT.lt rfl rfl rfl (want_on rfl (sb (decide_eq_true c119))) (fun w' k => r_fa (HS.nsAt 2 rfl (i := (y83.2.2.2.2.1.getD (0 : Int).toNat 0).toNat) (by omega)) fd72_3 rfl) ?_
  refine RT.lt rfl rfl rfl (want_on rfl (sb (decide_eq_true c119))) (fun w' k => r_ld (v := iv ((y83.2.2.1.getD (y83.2.2.2.2.1.getD (0 : Int).toNat 0).toNat dN).2.2.2)) (((HS.nsAt 2 rfl (i := (y83.2.2.2.2.1.getD (0 : Int).toNat 0).toNat) (by omega)).seg 3 1).k0 (Sub.refl _) (k.kp.none rfl)) sc3 rfl) ?_
  refine RT.lt rfl rfl rfl (want_on rfl (sb (decide_eq_true c119))) (fun w' k => r_eql rfl rfl) ?_
  refine RT.lt rfl rfl rfl rfl (fun w' k => r_pickt (v := .bool ((decide ((y83.2.2.1.getD (y83.2.2.2.2.1.getD (0 : Int).toNat 0).toNat dN).2.2.2 = 0)))) (decide_eq_true c119) rfl rfl) ?_
  refine RT.lt rfl rfl rfl rfl (fun w' k => r_mv (v := .bool ((decide ((y83.2.2.1.getD (y83.2.2.2.2.1.getD (0 : Int).toNat 0).toNat dN).2.2.2 = 0)))) rfl) ?_
  replace h := ite_some h; rcases h with ⟨c122, h⟩ | ⟨c122, h⟩
  rotate_left
  · refine RT.sk rfl rfl rfl (want_off rfl (sb (decide_eq_false c122)) rfl) ?_
    refine RT.sk rfl rfl rfl (want_off rfl (sb (decide_eq_false c122)) rfl) ?_
    refine RT.sk rfl rfl rfl (want_off rfl (sb (decide_eq_false c122)) rfl) ?_
    refine RT.sk rfl rfl rfl (want_off rfl (sb (decide_eq_false c122)) rfl) ?_
    refine RT.sk rfl rfl rfl (want_off rfl (sb (decide_eq_false c122)) rfl) ?_
    refine RT.lt rfl rfl rfl rfl (fun w' k => r_pickf (v := .bool false) (decide_eq_false c122) rfl rfl) ?_
    refine RT.lt rfl rfl rfl rfl (fun w' k => r_mv (v := .bool false) rfl) ?_
    refine RT.sk rfl rfl rfl (want_off rfl (sb (rfl)) rfl) ?_
    refine RT.sk rfl rfl rfl (want_off rfl (sb (rfl)) rfl) ?_
    refine RT.sk rfl rfl rfl (want_off rfl (sb (rfl)) rfl) ?_
    refine RT.sk rfl rfl rfl (want_off rfl (sb (rfl)) rfl) ?_
    refine RT.sk rfl rfl rfl (want_off rfl (sb (rfl)) rfl) ?_
    refine RT.sk rfl rfl rfl (want_off rfl (sb (rfl)) rfl) ?_
    refine RT.sk rfl rfl rfl (want_off rfl (sb (rfl)) rfl) ?_
    refine RT.sk rfl rfl rfl (want_off rfl (sb (rfl)) rfl) ?_
    refine RT.lt rfl rfl rfl rfl (fun w' k => r_pickf (v := .bool false) (rfl) rfl rfl) ?_
    refine RT.lt rfl rfl rfl rfl (fun w' k => r_as (v := .bool false) rfl) ?_
    refine RT.nil (nx ?_)
    refine ex_if_f rfl (rfl) ?_
    refine ex_skip (blk_nx (nx ?_))
    refine ex_seq ?_
    refine ex_region ?_
    refine ro_lt (r_mv (v := .pointer (some ⟨g_c, 0, none⟩)) rfl) rfl ?_
    refine ro_lt (r_nc (HS.boxAt 1 rfl) rfl) rfl ?_
    refine ro_lt (r_fa (HS.boxAt 1 rfl) fd95_0 rfl) rfl ?_
    refine ro_lt (r_fa ((HS.boxAt 1 rfl).seg 0 2) fd27_0 rfl) rfl ?_
    refine ro_lt (r_ld (((HS.boxAt 1 rfl).seg 0 2).seg 0 1) sc24 rfl) rfl ?_
    refine ro_lt (r_lenn (m := 4) HS (k := 2) rfl sl24 rfl) rfl ?_
    refine ro_lt (r_mv (v := iv 0) rfl) rfl ?_
    refine RO.nil (nx ?_)
    replace h := bind_some h; obtain ⟨y233, e234, h⟩ := h
    refine ex_lbo (fun (st : Bool × Bool × (List (List Int × List Int × Int × Int)) × Int) s' w' => Has s' [(0, .pointer (some ⟨g_c, 0, none⟩)), (1, iv a), (2, iv p), (6, (eaddr v_c_Nodes (p.toNat * 4))), (147, iv ((n_c : Int))), (148, iv st.2.2.2)] ∧ St w H w' (.ow (.sl 3 (.int .i64)) y83.2.2.2.2.1 [v62] :: .bx g_c 95 [v_c_Nodes, v_c_Next, iv c_vars, .bool st.1, .bool st.2.1] :: .pr (NS 72 3 n_c v_c_Nodes sh_c st.2.2.1) :: .ow (.sl 3 (.int .i64)) y83.2.2.2.1 [v_c_Next] :: FR)) e234 ⟨⟨rfl, rfl, rfl, rfl, rfl, rfl, trivial⟩, HS⟩ ?_ ?_
    · rintro ⟨changed_215, bad_216, Nodes_217, i218⟩ c' s' w219 ⟨hs_, HS⟩ h
      rw [has_put hs_]; clear hs_
      try dsimp only at HS
      replace h : F_impl_sharpener_sourced_b3 n_c a y83 p changed_215 bad_216 Nodes_217 i218 = some c' := h
      unfold F_impl_sharpener_sourced_b3 at h
      refine ex_seq ?_
      refine ex_region ?_
      refine ro_lt (r_lss rfl rfl) rfl ?_
      refine RO.nil (nx ?_)
      refine ex_seq ?_
      replace h := ite_some h; rcases h with ⟨c220, h⟩ | ⟨c220, h⟩
      rotate_left
      · refine ex_if_f rfl (decide_eq_false c220) ?_
        refine ex_exit (tq_exit ?_)
        obtain rfl := Option.some.inj h
        exact lq_out ⟨⟨rfl, rfl, rfl, rfl, rfl, rfl, trivial⟩, HS⟩
      refine ex_if_t rfl (decide_eq_true c220) ?_
      refine ex_skip (nx ?_)
      refine ex_seq ?_
      refine ex_block ?_
      refine ex_seq ?_
      refine ex_region ?_
      refine ro_lt (r_mv (v := iv i218) rfl) rfl ?_
      refine ro_lt (r_as (v := iv i218) rfl) rfl ?_
      refine RO.nil (nx ?_)
      refine ex_seq ?_
      refine ex_region ?_
      refine ro_lt (r_mv (v := .pointer (some ⟨g_c, 0, none⟩)) rfl) rfl ?_
      refine ro_lt (r_nc (HS.boxAt 1 rfl) rfl) rfl ?_
      refine ro_lt (r_fa (HS.boxAt 1 rfl) fd95_0 rfl) rfl ?_
      refine ro_lt (r_fa ((HS.boxAt 1 rfl).seg 0 2) fd27_0 rfl) rfl ?_
      refine ro_lt (r_ld (((HS.boxAt 1 rfl).seg 0 2).seg 0 1) sc24 rfl) rfl ?_
      refine ro_lt (r_mv (v := iv i218) rfl) rfl ?_
      replace h := grd_some h; obtain ⟨g221, h⟩ := h
      refine ro_lt (r_ian HS (k := 2) rfl sl24 g221.1 g221.2 rfl rfl) rfl ?_
      refine ro_lt (r_fa (HS.nsAt 2 rfl (i := i218.toNat) (by omega)) fd72_0 rfl) rfl ?_
      refine ro_lt (r_ld (v := (sh_c i218.toNat).1) ((HS.nsAt 2 rfl (i := i218.toNat) (by omega)).seg 0 1) sc25 rfl) rfl ?_
      refine ro_lt (r_mv (v := iv a) rfl) rfl ?_
      replace h := grd_some h; obtain ⟨g222, h⟩ := h
      refine ro_lt (r_ia (HS.nsR1 2 rfl (i := i218.toNat) (by omega)) sl25 g222.1 g222.2 rfl rfl) rfl ?_
      refine ro_lt (r_ld ((HS.nsR1 2 rfl (i := i218.toNat) (by omega)).int g222.1 g222.2) sc3 rfl) rfl ?_
      refine ro_lt (r_eql rfl rfl) rfl ?_
      refine ro_lt (r_mv (v := .bool ((decide (((Nodes_217.getD i218.toNat dN).1).getD a.toNat 0 = 2)))) rfl) rfl ?_
      replace h := ite_some h; rcases h with ⟨c223, h⟩ | ⟨c223, h⟩
      rotate_left
      · refine ro_off (sb (decide_eq_false c223)) rfl rfl ?_
        refine ro_off (sb (decide_eq_false c223)) rfl rfl ?_
        refine ro_off (sb (decide_eq_false c223)) rfl rfl ?_
        refine ro_off (sb (decide_eq_false c223)) rfl rfl ?_
        refine ro_off (sb (decide_eq_false c223)) rfl rfl ?_
        refine ro_off (sb (decide_eq_false c223)) rfl rfl ?_
        refine ro_off (sb (decide_eq_false c223)) rfl rfl ?_
        refine ro_off (sb (decide_eq_false c223)) rfl rfl ?_
        refine ro_lt (r_pickf (v := .bool false) (decide_eq_false c223) rfl rfl) rfl ?_
        refine RO.nil (nx ?_)
        refine ex_if_f rfl (rfl) ?_
        refine ex_skip (blk_nx (nx ?_))
        refine ex_region ?_
        refine ro_lt (r_addw rfl rfl) rfl ?_
        refine ro_lt (r_mv (v := iv (wi (i218 + 1))) rfl) rfl ?_
        refine RO.nil ?_
        obtain rfl := Option.some.inj h
        exact lq_go ⟨⟨rfl, rfl, rfl, rfl, rfl, rfl, trivial⟩, HS⟩
      refine ro_on (sb (decide_eq_true c223)) ?_
      refine ro_lt (r_mv (v := .pointer (some ⟨g_c, 0, none⟩)) rfl) rfl ?_
      refine ro_on (sb (decide_eq_true c223)) ?_
      refine ro_lt (r_nc (HS.boxAt 1 rfl) rfl) rfl ?_
      refine ro_on (sb (decide_eq_true c223)) ?_
      refine ro_lt (r_fa (HS.boxAt 1 rfl) fd95_0 rfl) rfl ?_
      refine ro_on (sb (decide_eq_true c223)) ?_
      refine ro_lt (r_lda ((HS.boxAt 1 rfl).seg 0 2) ag27 rfl rfl) rfl ?_
      refine ro_on (sb (decide_eq_true c223)) ?_
      refine ro_lt (r_mv (v := iv i218) rfl) rfl ?_
      refine ro_on (sb (decide_eq_true c223)) ?_
      refine ro_lt (r_mv (v := iv p) rfl) rfl ?_
      replace h := bind_some h; obtain ⟨y224, e225, h⟩ := h
      refine ro_on (sb (decide_eq_true c223)) ?_
      refine ro_hy (o_cf (vs := [.agg #[v_c_Nodes, v_c_Next], iv i218, iv p]) HS rfl (c_impl_PathOf (HS.nsRd 2 rfl) (HS.rd 3 rfl) e225) cf164 rfl) rfl ?_
      rintro _ w226 ⟨rfl, hb, HS⟩
      refine ro_on (sb (decide_eq_true c223)) ?_
      refine ro_lt (r_eql rfl rfl) rfl ?_
      refine ro_lt (r_pickt (v := .bool ((decide (y224 = 0)))) (decide_eq_true c223) rfl rfl) rfl ?_
      refine RO.nil (nx ?_)
      replace h := ite_some h; rcases h with ⟨c227, h⟩ | ⟨c227, h⟩
      rotate_left
      · refine ex_if_f rfl (decide_eq_false c227) ?_
        refine ex_skip (blk_nx (nx ?_))
        refine ex_region ?_
        refine ro_lt (r_addw rfl rfl) rfl ?_
        refine ro_lt (r_mv (v := iv (wi (i218 + 1))) rfl) rfl ?_
        refine RO.nil ?_
        obtain rfl := Option.some.inj h
        exact lq_go ⟨⟨rfl, rfl, rfl, rfl, rfl, rfl, trivial⟩, HS⟩
      refine ex_if_t rfl (decide_eq_true c227) ?_
      refine ex_region ?_
      refine ro_lt (r_mv (v := .pointer (some ⟨g_c, 0, none⟩)) rfl) rfl ?_
      refine ro_lt (r_mv (v := (eaddr v_c_Nodes (p.toNat * 4))) rfl) rfl ?_
      refine ro_lt (r_nc (HS.nsAt 2 rfl (i := p.toNat) (by omega)) rfl) rfl ?_
      refine ro_lt (r_fa (HS.nsAt 2 rfl (i := p.toNat) (by omega)) fd72_1 rfl) rfl ?_
      refine ro_lt (r_ld (v := (sh_c p.toNat).2) ((HS.nsAt 2 rfl (i := p.toNat) (by omega)).seg 1 1) sc25 rfl) rfl ?_
      refine ro_lt (r_mv (v := iv a) rfl) rfl ?_
      replace h := grd_some h; obtain ⟨g228, h⟩ := h
      refine ro_lt (r_ia (HS.nsR2 2 rfl (i := p.toNat) (by omega)) sl25 g228.1 g228.2 rfl rfl) rfl ?_
      replace h := bind_some h; obtain ⟨y230, e231, h⟩ := h
      refine ro_hy (o_cs (vs := [.pointer (some ⟨g_c, 0, none⟩), eaddr (sh_c p.toNat).2 (a.toNat * 1), iv 0]) (c_set_r2 (HS.sel (G := _ :: _ :: _ :: _ :: FR) [1, 1] 0 rfl).self g4.1 g4.2 g228.1 g228.2 e231) cf161 rfl) rfl ?_
      rintro _ w229 ⟨rfl, HS2⟩
      replace HS := (HS.sel (G := _ :: _ :: _ :: _ :: FR) [1, 1] 0 rfl).from HS2
      refine RO.nil (blk_nx (nx ?_))
      refine ex_region ?_
      refine ro_lt (r_addw rfl rfl) rfl ?_
      refine ro_lt (r_mv (v := iv (wi (i218 + 1))) rfl) rfl ?_
      refine RO.nil ?_
      obtain rfl := Option.some.inj h
      exact lq_go ⟨⟨rfl, rfl, rfl, rfl, rfl, rfl, trivial⟩, (HS.sel (G := _ :: _ :: _ :: _ :: FR) [2, 0, 0, 0] 0 rfl)⟩
    rintro s' w235 ⟨hs_, HS⟩
    rw [has_put hs_]; clear hs_
    obtain rfl := Option.some.inj h
    exact ret0 (.inl rfl) rfl ⟨rfl, (HS.sel (G := _ :: _ :: _ :: FR) [1, 1, 1] 1 rfl)⟩
  refine RT.lt rfl rfl rfl (want_on rfl (sb (decide_eq_true c122))) (fun w' k => r_mv (v := (eaddr v_c_Nodes (p.toNat * 4))) rfl) ?_
  refine RT.lt rfl rfl rfl (want_on rfl (sb (decide_eq_true c122))) (fun w' k => r_nc (HS.nsAt 2 rfl (i := p.toNat) (by omega)) rfl) ?_
  refine RT.lt rfl rfl rfl (want_on rfl (sb (decide_eq_true c122))) (fun w' k => r_fa (HS.nsAt 2 rfl (i := p.toNat) (by omega)) fd72_3 rfl) ?_
  refine RT.lt rfl rfl rfl (want_on rfl (sb (decide_eq_true c122))) (fun w' k => r_ld (v := iv ((y83.2.2.1.getD p.toNat dN).2.2.2)) (((HS.nsAt 2 rfl (i := p.toNat) (by omega)).seg 3 1).k0 (Sub.refl _) (k.kp.none rfl)) sc3 rfl) ?_
  refine RT.lt rfl rfl rfl (want_on rfl (sb (decide_eq_true c122))) (fun w' k => r_eql rfl rfl) ?_
  refine RT.lt rfl rfl rfl rfl (fun w' k => r_pickt (v := .bool ((decide ((y83.2.2.1.getD p.toNat dN).2.2.2 = 0)))) (decide_eq_true c122) rfl rfl) ?_
  refine RT.lt rfl rfl rfl rfl (fun w' k => r_mv (v := .bool ((decide ((y83.2.2.1.getD p.toNat dN).2.2.2 = 0)))) rfl) ?_
  replace h := ite_some h; rcases h with ⟨c123, h⟩ | ⟨c123, h⟩
  rotate_left
  · refine RT.sk rfl rfl rfl (want_off rfl (sb (decide_eq_false c123)) rfl) ?_
    refine RT.sk rfl rfl rfl (want_off rfl (sb (decide_eq_false c123)) rfl) ?_
    refine RT.sk rfl rfl rfl (want_off rfl (sb (decide_eq_false c123)) rfl) ?_
    refine RT.sk rfl rfl rfl (want_off rfl (sb (decide_eq_false c123)) rfl) ?_
    refine RT.sk rfl rfl rfl (want_off rfl (sb (decide_eq_false c123)) rfl) ?_
    refine RT.sk rfl rfl rfl (want_off rfl (sb (decide_eq_false c123)) rfl) ?_
    refine RT.sk rfl rfl rfl (want_off rfl (sb (decide_eq_false c123)) rfl) ?_
    refine RT.sk rfl rfl rfl (want_off rfl (sb (decide_eq_false c123)) rfl) ?_
    refine RT.lt rfl rfl rfl rfl (fun w' k => r_pickf (v := .bool false) (decide_eq_false c123) rfl rfl) ?_
    refine RT.lt rfl rfl rfl rfl (fun w' k => r_as (v := .bool false) rfl) ?_
    refine RT.nil (nx ?_)
    refine ex_if_f rfl (rfl) ?_
    refine ex_skip (blk_nx (nx ?_))
    refine ex_seq ?_
    refine ex_region ?_
    refine ro_lt (r_mv (v := .pointer (some ⟨g_c, 0, none⟩)) rfl) rfl ?_
    refine ro_lt (r_nc (HS.boxAt 1 rfl) rfl) rfl ?_
    refine ro_lt (r_fa (HS.boxAt 1 rfl) fd95_0 rfl) rfl ?_
    refine ro_lt (r_fa ((HS.boxAt 1 rfl).seg 0 2) fd27_0 rfl) rfl ?_
    refine ro_lt (r_ld (((HS.boxAt 1 rfl).seg 0 2).seg 0 1) sc24 rfl) rfl ?_
    refine ro_lt (r_lenn (m := 4) HS (k := 2) rfl sl24 rfl) rfl ?_
    refine ro_lt (r_mv (v := iv 0) rfl) rfl ?_
    refine RO.nil (nx ?_)
    replace h := bind_some h; obtain ⟨y209, e210, h⟩ := h
    refine ex_lbo (fun (st : Bool × Bool × (List (List Int × List Int × Int × Int)) × Int) s' w' => Has s' [(0, .pointer (some ⟨g_c, 0, none⟩)), (1, iv a), (2, iv p), (6, (eaddr v_c_Nodes (p.toNat * 4))), (147, iv ((n_c : Int))), (148, iv st.2.2.2)] ∧ St w H w' (.ow (.sl 3 (.int .i64)) y83.2.2.2.2.1 [v62] :: .bx g_c 95 [v_c_Nodes, v_c_Next, iv c_vars, .bool st.1, .bool st.2.1] :: .pr (NS 72 3 n_c v_c_Nodes sh_c st.2.2.1) :: .ow (.sl 3 (.int .i64)) y83.2.2.2.1 [v_c_Next] :: FR)) e210 ⟨⟨rfl, rfl, rfl, rfl, rfl, rfl, trivial⟩, HS⟩ ?_ ?_
    · rintro ⟨changed_191, bad_192, Nodes_193, i194⟩ c' s' w195 ⟨hs_, HS⟩ h
      rw [has_put hs_]; clear hs_
      try dsimp only at HS
      replace h : F_impl_sharpener_sourced_b3 n_c a y83 p changed_191 bad_192 Nodes_193 i194 = some c' := h
      unfold F_impl_sharpener_sourced_b3 at h
      refine ex_seq ?_
      refine ex_region ?_
      refine ro_lt (r_lss rfl rfl) rfl ?_
      refine RO.nil (nx ?_)
      refine ex_seq ?_
      replace h := ite_some h; rcases h with ⟨c196, h⟩ | ⟨c196, h⟩
      rotate_left
      · refine ex_if_f rfl (decide_eq_false c196) ?_
        refine ex_exit (tq_exit ?_)
        obtain rfl := Option.some.inj h
        exact lq_out ⟨⟨rfl, rfl, rfl, rfl, rfl, rfl, trivial⟩, HS⟩
      refine ex_if_t rfl (decide_eq_true c196) ?_
      refine ex_skip (nx ?_)
      refine ex_seq ?_
      refine ex_block ?_
      refine ex_seq ?_
      refine ex_region ?_
      refine ro_lt (r_mv (v := iv i194) rfl) rfl ?_
      refine ro_lt (r_as (v := iv i194) rfl) rfl ?_
      refine RO.nil (nx ?_)
      refine ex_seq ?_
      refine ex_region ?_
      refine ro_lt (r_mv (v := .pointer (some ⟨g_c, 0, none⟩)) rfl) rfl ?_
      refine ro_lt (r_nc (HS.boxAt 1 rfl) rfl) rfl ?_
      refine ro_lt (r_fa (HS.boxAt 1 rfl) fd95_0 rfl) rfl ?_
      refine ro_lt (r_fa ((HS.boxAt 1 rfl).seg 0 2) fd27_0 rfl) rfl ?_
      refine ro_lt (r_ld (((HS.boxAt 1 rfl).seg 0 2).seg 0 1) sc24 rfl) rfl ?_
      refine ro_lt (r_mv (v := iv i194) rfl) rfl ?_
      replace h := grd_some h; obtain ⟨g197, h⟩ := h
      refine ro_lt (r_ian HS (k := 2) rfl sl24 g197.1 g197.2 rfl rfl) rfl ?_
      refine ro_lt (r_fa (HS.nsAt 2 rfl (i := i194.toNat) (by omega)) fd72_0 rfl) rfl ?_
      refine ro_lt (r_ld (v := (sh_c i194.toNat).1) ((HS.nsAt 2 rfl (i := i194.toNat) (by omega)).seg 0 1) sc25 rfl) rfl ?_
      refine ro_lt (r_mv (v := iv a) rfl) rfl ?_
      replace h := grd_some h; obtain ⟨g198, h⟩ := h
      refine ro_lt (r_ia (HS.nsR1 2 rfl (i := i194.toNat) (by omega)) sl25 g198.1 g198.2 rfl rfl) rfl ?_
      refine ro_lt (r_ld ((HS.nsR1 2 rfl (i := i194.toNat) (by omega)).int g198.1 g198.2) sc3 rfl) rfl ?_
      refine ro_lt (r_eql rfl rfl) rfl ?_
      refine ro_lt (r_mv (v := .bool ((decide (((Nodes_193.getD i194.toNat dN).1).getD a.toNat 0 = 2)))) rfl) rfl ?_
      replace h := ite_some h; rcases h with ⟨c199, h⟩ | ⟨c199, h⟩
      rotate_left
      · refine ro_off (sb (decide_eq_false c199)) rfl rfl ?_
        refine ro_off (sb (decide_eq_false c199)) rfl rfl ?_
        refine ro_off (sb (decide_eq_false c199)) rfl rfl ?_
        refine ro_off (sb (decide_eq_false c199)) rfl rfl ?_
        refine ro_off (sb (decide_eq_false c199)) rfl rfl ?_
        refine ro_off (sb (decide_eq_false c199)) rfl rfl ?_
        refine ro_off (sb (decide_eq_false c199)) rfl rfl ?_
        refine ro_off (sb (decide_eq_false c199)) rfl rfl ?_
        refine ro_lt (r_pickf (v := .bool false) (decide_eq_false c199) rfl rfl) rfl ?_
        refine RO.nil (nx ?_)
        refine ex_if_f rfl (rfl) ?_
        refine ex_skip (blk_nx (nx ?_))
        refine ex_region ?_
        refine ro_lt (r_addw rfl rfl) rfl ?_
        refine ro_lt (r_mv (v := iv (wi (i194 + 1))) rfl) rfl ?_
        refine RO.nil ?_
        obtain rfl := Option.some.inj h
        exact lq_go ⟨⟨rfl, rfl, rfl, rfl, rfl, rfl, trivial⟩, HS⟩
      refine ro_on (sb (decide_eq_true c199)) ?_
      refine ro_lt (r_mv (v := .pointer (some ⟨g_c, 0, none⟩)) rfl) rfl ?_
      refine ro_on (sb (decide_eq_true c199)) ?_
      refine ro_lt (r_nc (HS.boxAt 1 rfl) rfl) rfl ?_
      refine ro_on (sb (decide_eq_true c199)) ?_
      refine ro_lt (r_fa (HS.boxAt 1 rfl) fd95_0 rfl) rfl ?_
      refine ro_on (sb (decide_eq_true c199)) ?_
      refine ro_lt (r_lda ((HS.boxAt 1 rfl).seg 0 2) ag27 rfl rfl) rfl ?_
      refine ro_on (sb (decide_eq_true c199)) ?_
      refine ro_lt (r_mv (v := iv i194) rfl) rfl ?_
      refine ro_on (sb (decide_eq_true c199)) ?_
      refine ro_lt (r_mv (v := iv p) rfl) rfl ?_
      replace h := bind_some h; obtain ⟨y200, e201, h⟩ := h
      refine ro_on (sb (decide_eq_true c199)) ?_
      refine ro_hy (o_cf (vs := [.agg #[v_c_Nodes, v_c_Next], iv i194, iv p]) HS rfl (c_impl_PathOf (HS.nsRd 2 rfl) (HS.rd 3 rfl) e201) cf164 rfl) rfl ?_
      rintro _ w202 ⟨rfl, hb, HS⟩
      refine ro_on (sb (decide_eq_true c199)) ?_
      refine ro_lt (r_eql rfl rfl) rfl ?_
      refine ro_lt (r_pickt (v := .bool ((decide (y200 = 0)))) (decide_eq_true c199) rfl rfl) rfl ?_
      refine RO.nil (nx ?_)
      replace h := ite_some h; rcases h with ⟨c203, h⟩ | ⟨c203, h⟩
      rotate_left
      · refine ex_if_f rfl (decide_eq_false c203) ?_
        refine ex_skip (blk_nx (nx ?_))
        refine ex_region ?_
        refine ro_lt (r_addw rfl rfl) rfl ?_
        refine ro_lt (r_mv (v := iv (wi (i194 + 1))) rfl) rfl ?_
        refine RO.nil ?_
        obtain rfl := Option.some.inj h
        exact lq_go ⟨⟨rfl, rfl, rfl, rfl, rfl, rfl, trivial⟩, HS⟩
      refine ex_if_t rfl (decide_eq_true c203) ?_
      refine ex_region ?_
      refine ro_lt (r_mv (v := .pointer (some ⟨g_c, 0, none⟩)) rfl) rfl ?_
      refine ro_lt (r_mv (v := (eaddr v_c_Nodes (p.toNat * 4))) rfl) rfl ?_
      refine ro_lt (r_nc (HS.nsAt 2 rfl (i := p.toNat) (by omega)) rfl) rfl ?_
      refine ro_lt (r_fa (HS.nsAt 2 rfl (i := p.toNat) (by omega)) fd72_1 rfl) rfl ?_
      refine ro_lt (r_ld (v := (sh_c p.toNat).2) ((HS.nsAt 2 rfl (i := p.toNat) (by omega)).seg 1 1) sc25 rfl) rfl ?_
      refine ro_lt (r_mv (v := iv a) rfl) rfl ?_
      replace h := grd_some h; obtain ⟨g204, h⟩ := h
      refine ro_lt (r_ia (HS.nsR2 2 rfl (i := p.toNat) (by omega)) sl25 g204.1 g204.2 rfl rfl) rfl ?_
      replace h := bind_some h; obtain ⟨y206, e207, h⟩ := h
      refine ro_hy (o_cs (vs := [.pointer (some ⟨g_c, 0, none⟩), eaddr (sh_c p.toNat).2 (a.toNat * 1), iv 0]) (c_set_r2 (HS.sel (G := _ :: _ :: _ :: _ :: FR) [1, 1] 0 rfl).self g4.1 g4.2 g204.1 g204.2 e207) cf161 rfl) rfl ?_
      rintro _ w205 ⟨rfl, HS2⟩
      replace HS := (HS.sel (G := _ :: _ :: _ :: _ :: FR) [1, 1] 0 rfl).from HS2
      refine RO.nil (blk_nx (nx ?_))
      refine ex_region ?_
      refine ro_lt (r_addw rfl rfl) rfl ?_
      refine ro_lt (r_mv (v := iv (wi (i194 + 1))) rfl) rfl ?_
      refine RO.nil ?_
      obtain rfl := Option.some.inj h
      exact lq_go ⟨⟨rfl, rfl, rfl, rfl, rfl, rfl, trivial⟩, (HS.sel (G := _ :: _ :: _ :: _ :: FR) [2, 0, 0, 0] 0 rfl)⟩
    rintro s' w211 ⟨hs_, HS⟩
    rw [has_put hs_]; clear hs_
    obtain rfl := Option.some.inj h
    exact ret0 (.inl rfl) rfl ⟨rfl, (HS.sel (G := _ :: _ :: _ :: FR) [1, 1, 1] 1 rfl)⟩
  refine RT.lt rfl rfl rfl (want_on rfl (sb (decide_eq_true c123))) (fun w' k => r_mv (v := (eaddr v_c_Nodes (p.toNat * 4))) rfl) ?_
  refine RT.lt rfl rfl rfl (want_on rfl (sb (decide_eq_true c123))) (fun w' k => r_nc (HS.nsAt 2 rfl (i := p.toNat) (by omega)) rfl) ?_
  refine RT.lt rfl rfl rfl (want_on rfl (sb (decide_eq_true c123))) (fun w' k => r_fa (HS.nsAt 2 rfl (i := p.toNat) (by omega)) fd72_1 rfl) ?_
  refine RT.lt rfl rfl rfl (want_on rfl (sb (decide_eq_true c123))) (fun w' k => r_ld (v := (sh_c p.toNat).2) (((k.phi (Phi.of (f := (fun (a : Bool × Bool) => [v_c_Nodes, v_c_Next, iv c_vars, .bool a.1, .bool a.2])) (y83.1, y83.2.1) HS 1 2 rfl rfl)).2 p.toNat (by omega)).seg 1 1) sc25 rfl) ?_
  refine RT.lt rfl rfl rfl (want_on rfl (sb (decide_eq_true c123))) (fun w' k => r_mv (v := iv a) rfl) ?_
  replace h := grd_some h; obtain ⟨g124, h⟩ := h
  refine RT.lt rfl rfl rfl (want_on rfl (sb (decide_eq_true c123))) (fun w' k => r_ia (HS.nsR2 2 rfl (i := p.toNat) (by omega)) sl25 g124.1 g124.2 rfl rfl) ?_
  refine RT.lt rfl rfl rfl (want_on rfl (sb (decide_eq_true c123))) (fun w' k => r_ld (((HS.nsR2 2 rfl (i := p.toNat) (by omega)).int g124.1 g124.2).k0 (Sub.refl _) (k.kp.none rfl)) sc3 rfl) ?_
  refine RT.lt rfl rfl rfl (want_on rfl (sb (decide_eq_true c123))) (fun w' k => r_eql rfl rfl) ?_
  refine RT.lt rfl rfl rfl rfl (fun w' k => r_pickt (v := .bool ((decide (((y83.2.2.1.getD p.toNat dN).2.1).getD a.toNat 0 = 2)))) (decide_eq_true c123) rfl rfl) ?_
  refine RT.lt rfl rfl rfl rfl (fun w' k => r_as (v := .bool ((decide (((y83.2.2.1.getD p.toNat dN).2.1).getD a.toNat 0 = 2)))) rfl) ?_
  refine RT.nil (nx ?_)
  replace h := ite_some h; rcases h with ⟨c125, h⟩ | ⟨c125, h⟩
  rotate_left
  · refine ex_if_f rfl (decide_eq_false c125) ?_
    refine ex_skip (blk_nx (nx ?_))
    refine ex_seq ?_
    refine ex_region ?_
    refine ro_lt (r_mv (v := .pointer (some ⟨g_c, 0, none⟩)) rfl) rfl ?_
    refine ro_lt (r_nc (HS.boxAt 1 rfl) rfl) rfl ?_
    refine ro_lt (r_fa (HS.boxAt 1 rfl) fd95_0 rfl) rfl ?_
    refine ro_lt (r_fa ((HS.boxAt 1 rfl).seg 0 2) fd27_0 rfl) rfl ?_
    refine ro_lt (r_ld (((HS.boxAt 1 rfl).seg 0 2).seg 0 1) sc24 rfl) rfl ?_
    refine ro_lt (r_lenn (m := 4) HS (k := 2) rfl sl24 rfl) rfl ?_
    refine ro_lt (r_mv (v := iv 0) rfl) rfl ?_
    refine RO.nil (nx ?_)
    replace h := bind_some h; obtain ⟨y185, e186, h⟩ := h
    refine ex_lbo (fun (st : Bool × Bool × (List (List Int × List Int × Int × Int)) × Int) s' w' => Has s' [(0, .pointer (some ⟨g_c, 0, none⟩)), (1, iv a), (2, iv p), (6, (eaddr v_c_Nodes (p.toNat * 4))), (147, iv ((n_c : Int))), (148, iv st.2.2.2)] ∧ St w H w' (.ow (.sl 3 (.int .i64)) y83.2.2.2.2.1 [v62] :: .bx g_c 95 [v_c_Nodes, v_c_Next, iv c_vars, .bool st.1, .bool st.2.1] :: .pr (NS 72 3 n_c v_c_Nodes sh_c st.2.2.1) :: .ow (.sl 3 (.int .i64)) y83.2.2.2.1 [v_c_Next] :: FR)) e186 ⟨⟨rfl, rfl, rfl, rfl, rfl, rfl, trivial⟩, HS⟩ ?_ ?_
    · rintro ⟨changed_167, bad_168, Nodes_169, i170⟩ c' s' w171 ⟨hs_, HS⟩ h
      rw [has_put hs_]; clear hs_
      try dsimp only at HS
      replace h : F_impl_sharpener_sourced_b3 n_c a y83 p changed_167 bad_168 Nodes_169 i170 = some c' := h
      unfold F_impl_sharpener_sourced_b3 at h
      refine ex_seq ?_
      refine ex_region ?_
      refine ro_lt (r_lss rfl rfl) rfl ?_
      refine RO.nil (nx ?_)
      refine ex_seq ?_
      replace h := ite_some h; rcases h with ⟨c172, h⟩ | ⟨c172, h⟩
      rotate_left
      · refine ex_if_f rfl (decide_eq_false c172) ?_
        refine ex_exit (tq_exit ?_)
        obtain rfl := Option.some.inj h
        exact lq_out ⟨⟨rfl, rfl, rfl, rfl, rfl, rfl, trivial⟩, HS⟩
      refine ex_if_t rfl (decide_eq_true c172) ?_
      refine ex_skip (nx ?_)
      refine ex_seq ?_
      refine ex_block ?_
      refine ex_seq ?_
      refine ex_region ?_
      refine ro_lt (r_mv (v := iv i170) rfl) rfl ?_
      refine ro_lt (r_as (v := iv i170) rfl) rfl ?_
      refine RO.nil (nx ?_)
      refine ex_seq ?_
      refine ex_region ?_
      refine ro_lt (r_mv (v := .pointer (some ⟨g_c, 0, none⟩)) rfl) rfl ?_
      refine ro_lt (r_nc (HS.boxAt 1 rfl) rfl) rfl ?_
      refine ro_lt (r_fa (HS.boxAt 1 rfl) fd95_0 rfl) rfl ?_
      refine ro_lt (r_fa ((HS.boxAt 1 rfl).seg 0 2) fd27_0 rfl) rfl ?_
      refine ro_lt (r_ld (((HS.boxAt 1 rfl).seg 0 2).seg 0 1) sc24 rfl) rfl ?_
      refine ro_lt (r_mv (v := iv i170) rfl) rfl ?_
      replace h := grd_some h; obtain ⟨g173, h⟩ := h
      refine ro_lt (r_ian HS (k := 2) rfl sl24 g173.1 g173.2 rfl rfl) rfl ?_
      refine ro_lt (r_fa (HS.nsAt 2 rfl (i := i170.toNat) (by omega)) fd72_0 rfl) rfl ?_
      refine ro_lt (r_ld (v := (sh_c i170.toNat).1) ((HS.nsAt 2 rfl (i := i170.toNat) (by omega)).seg 0 1) sc25 rfl) rfl ?_
      refine ro_lt (r_mv (v := iv a) rfl) rfl ?_
      replace h := grd_some h; obtain ⟨g174, h⟩ := h
      refine ro_lt (r_ia (HS.nsR1 2 rfl (i := i170.toNat) (by omega)) sl25 g174.1 g174.2 rfl rfl) rfl ?_
      refine ro_lt (r_ld ((HS.nsR1 2 rfl (i := i170.toNat) (by omega)).int g174.1 g174.2) sc3 rfl) rfl ?_
      refine ro_lt (r_eql rfl rfl) rfl ?_
      refine ro_lt (r_mv (v := .bool ((decide (((Nodes_169.getD i170.toNat dN).1).getD a.toNat 0 = 2)))) rfl) rfl ?_
      replace h := ite_some h; rcases h with ⟨c175, h⟩ | ⟨c175, h⟩
      rotate_left
      · refine ro_off (sb (decide_eq_false c175)) rfl rfl ?_
        refine ro_off (sb (decide_eq_false c175)) rfl rfl ?_
        refine ro_off (sb (decide_eq_false c175)) rfl rfl ?_
        refine ro_off (sb (decide_eq_false c175)) rfl rfl ?_
        refine ro_off (sb (decide_eq_false c175)) rfl rfl ?_
        refine ro_off (sb (decide_eq_false c175)) rfl rfl ?_
        refine ro_off (sb (decide_eq_false c175)) rfl rfl ?_
        refine ro_off (sb (decide_eq_false c175)) rfl rfl ?_
        refine ro_lt (r_pickf (v := .bool false) (decide_eq_false c175) rfl rfl) rfl ?_
        refine RO.nil (nx ?_)
        refine ex_if_f rfl (rfl) ?_
        refine ex_skip (blk_nx (nx ?_))
        refine ex_region ?_
        refine ro_lt (r_addw rfl rfl) rfl ?_
        refine ro_lt (r_mv (v := iv (wi (i170 + 1))) rfl) rfl ?_
        refine RO.nil ?_
        obtain rfl := Option.some.inj h
        exact lq_go ⟨⟨rfl, rfl, rfl, rfl, rfl, rfl, trivial⟩, HS⟩
      refine ro_on (sb (decide_eq_true c175)) ?_
      refine ro_lt (r_mv (v := .pointer (some ⟨g_c, 0, none⟩)) rfl) rfl ?_
      refine ro_on (sb (decide_eq_true c175)) ?_
      refine ro_lt (r_nc (HS.boxAt 1 rfl) rfl) rfl ?_
      refine ro_on (sb (decide_eq_true c175)) ?_
      refine ro_lt (r_fa (HS.boxAt 1 rfl) fd95_0 rfl) rfl ?_
      refine ro_on (sb (decide_eq_true c175)) ?_
      refine ro_lt (r_lda ((HS.boxAt 1 rfl).seg 0 2) ag27 rfl rfl) rfl ?_
      refine ro_on (sb (decide_eq_true c175)) ?_
      refine ro_lt (r_mv (v := iv i170) rfl) rfl ?_
      refine ro_on (sb (decide_eq_true c175)) ?_
      refine ro_lt (r_mv (v := iv p) rfl) rfl ?_
      replace h := bind_some h; obtain ⟨y176, e177, h⟩ := h
      refine ro_on (sb (decide_eq_true c175)) ?_
      refine ro_hy (o_cf (vs := [.agg #[v_c_Nodes, v_c_Next], iv i170, iv p]) HS rfl (c_impl_PathOf (HS.nsRd 2 rfl) (HS.rd 3 rfl) e177) cf164 rfl) rfl ?_
      rintro _ w178 ⟨rfl, hb, HS⟩
      refine ro_on (sb (decide_eq_true c175)) ?_
      refine ro_lt (r_eql rfl rfl) rfl ?_
      refine ro_lt (r_pickt (v := .bool ((decide (y176 = 0)))) (decide_eq_true c175) rfl rfl) rfl ?_
      refine RO.nil (nx ?_)
      replace h := ite_some h; rcases h with ⟨c179, h⟩ | ⟨c179, h⟩
      rotate_left
      · refine ex_if_f rfl (decide_eq_false c179) ?_
        refine ex_skip (blk_nx (nx ?_))
        refine ex_region ?_
        refine ro_lt (r_addw rfl rfl) rfl ?_
        refine ro_lt (r_mv (v := iv (wi (i170 + 1))) rfl) rfl ?_
        refine RO.nil ?_
        obtain rfl := Option.some.inj h
        exact lq_go ⟨⟨rfl, rfl, rfl, rfl, rfl, rfl, trivial⟩, HS⟩
      refine ex_if_t rfl (decide_eq_true c179) ?_
      refine ex_region ?_
      refine ro_lt (r_mv (v := .pointer (some ⟨g_c, 0, none⟩)) rfl) rfl ?_
      refine ro_lt (r_mv (v := (eaddr v_c_Nodes (p.toNat * 4))) rfl) rfl ?_
      refine ro_lt (r_nc (HS.nsAt 2 rfl (i := p.toNat) (by omega)) rfl) rfl ?_
      refine ro_lt (r_fa (HS.nsAt 2 rfl (i := p.toNat) (by omega)) fd72_1 rfl) rfl ?_
      refine ro_lt (r_ld (v := (sh_c p.toNat).2) ((HS.nsAt 2 rfl (i := p.toNat) (by omega)).seg 1 1) sc25 rfl) rfl ?_
      refine ro_lt (r_mv (v := iv a) rfl) rfl ?_
      replace h := grd_some h; obtain ⟨g180, h⟩ := h
      refine ro_lt (r_ia (HS.nsR2 2 rfl (i := p.toNat) (by omega)) sl25 g180.1 g180.2 rfl rfl) rfl ?_
      replace h := bind_some h; obtain ⟨y182, e183, h⟩ := h
      refine ro_hy (o_cs (vs := [.pointer (some ⟨g_c, 0, none⟩), eaddr (sh_c p.toNat).2 (a.toNat * 1), iv 0]) (c_set_r2 (HS.sel (G := _ :: _ :: _ :: _ :: FR) [1, 1] 0 rfl).self g4.1 g4.2 g180.1 g180.2 e183) cf161 rfl) rfl ?_
      rintro _ w181 ⟨rfl, HS2⟩
      replace HS := (HS.sel (G := _ :: _ :: _ :: _ :: FR) [1, 1] 0 rfl).from HS2
      refine RO.nil (blk_nx (nx ?_))
      refine ex_region ?_
      refine ro_lt (r_addw rfl rfl) rfl ?_
      refine ro_lt (r_mv (v := iv (wi (i170 + 1))) rfl) rfl ?_
      refine RO.nil ?_
      obtain rfl := Option.some.inj h
      exact lq_go ⟨⟨rfl, rfl, rfl, rfl, rfl, rfl, trivial⟩, (HS.sel (G := _ :: _ :: _ :: _ :: FR) [2, 0, 0, 0] 0 rfl)⟩
    rintro s' w187 ⟨hs_, HS⟩
    rw [has_put hs_]; clear hs_
    obtain rfl := Option.some.inj h
    exact ret0 (.inl rfl) rfl ⟨rfl, (HS.sel (G := _ :: _ :: _ :: FR) [1, 1, 1] 1 rfl)⟩
  refine ex_if_t rfl (decide_eq_true c125) ?_
  refine ex_seq ?_
  refine ex_region ?_
  refine ro_lt (r_mv (v := .pointer (some ⟨g_c, 0, none⟩)) rfl) rfl ?_
  refine ro_lt (r_mv (v := .pointer (some ⟨g_c, 0, none⟩)) rfl) rfl ?_
  refine ro_lt (r_mv (v := v62) rfl) rfl ?_
  refine ro_lt (r_ia (HS.rd 0 rfl) sl25 (by omega) g120 rfl rfl) rfl ?_
  refine ro_lt (r_ld ((HS.rd 0 rfl).int (by omega) g120) sc3 rfl) rfl ?_
  refine ro_lt (r_mv (v := iv p) rfl) rfl ?_
  replace h := bind_some h; obtain ⟨y126, e127, h⟩ := h
  replace h := grd_some h; obtain ⟨g129, h⟩ := h
  refine ro_hy (o_cs (vs := [.pointer (some ⟨g_c, 0, none⟩), iv (y83.2.2.2.2.1.getD (0 : Int).toNat 0), iv p]) (c_impl_sharpener_next (HS.sel (G := _ :: _ :: _ :: _ :: FR) [1, 1, 1] 0 rfl).self e127) cf163 rfl) rfl ?_
  rintro _ w128 ⟨rfl, HS2⟩
  replace HS := (HS.sel (G := _ :: _ :: _ :: _ :: FR) [1, 1, 1] 0 rfl).from HS2
  replace h := bind_some h; obtain ⟨y132, e133, h⟩ := h
  refine ro_hy (o_cs (vs := [.pointer (some ⟨g_c, 0, none⟩), eaddr v_c_Next (y126.1.toNat * 1), iv 2]) (c_set_x (HS.sel (G := _ :: _ :: _ :: _ :: FR) [0, 1] 0 rfl).self g129.1 g129.2 e133) cf161 rfl) rfl ?_
  rintro _ w131 ⟨rfl, HS2⟩
  replace HS := (HS.sel (G := _ :: _ :: _ :: _ :: FR) [0, 1] 0 rfl).from HS2
  refine RO.nil (nx ?_)
  refine ex_dr (Mm H [8]) (Phi g_c (fun (a : Bool × Bool) => [v_c_Nodes, v_c_Next, iv c_vars, .bool a.1, .bool a.2]) v_c_Nodes n_c sh_c) [0, 0, 2, 6, 14, 30, 0, 64, 192, 510, 1022, 2046, 0, 8190, 16383] [14] (.op 0 (.op 1 (.op 2 (.op 3 (.op 4 (.op 5 (.op 6 (.op 7 (.op 8 (.op 9 (.op 10 (.op 11 (.op 12 (.op 13 (.op 14 .nil))))))))))))))) mix (by kernel_rfl) (by kernel_rfl) ?_
  intro w135 hw hb; have HS := HS.ext hb; clear hw hb
  refine RT.lt rfl rfl rfl rfl (fun w' k => r_mv (v := .pointer (some ⟨g_c, 0, none⟩)) rfl) ?_
  refine RT.lt rfl rfl rfl rfl (fun w' k => r_mv (v := .pointer (some ⟨g_c, 0, none⟩)) rfl) ?_
  refine RT.lt rfl rfl rfl rfl (fun w' k => r_nc (HS.boxAt 0 rfl) rfl) ?_
  refine RT.lt rfl rfl rfl rfl (fun w' k => r_fa (HS.boxAt 0 rfl) fd95_0 rfl) ?_
  refine RT.lt rfl rfl rfl rfl (fun w' k => r_fa ((HS.boxAt 0 rfl).seg 0 2) fd27_0 rfl) ?_
  refine RT.lt rfl rfl rfl rfl (fun w' k => r_ld (exGet (exSeg (exSeg (k.phi (Phi.of (f := (fun (a : Bool × Bool) => [v_c_Nodes, v_c_Next, iv c_vars, .bool a.1, .bool a.2])) (y132.2.1, y132.2.2) HS 0 2 rfl rfl)).1 0 2) 0 1) fun _ => rfl) sc24 rfl) ?_
  refine RT.lt rfl rfl rfl rfl (fun w' k => r_mv (v := v62) rfl) ?_
  refine RT.lt rfl rfl rfl rfl (fun w' k => r_ia (HS.rd 3 rfl) sl25 (by omega) g120 rfl rfl) ?_
  refine RT.lt rfl rfl rfl rfl (fun w' k => r_ld (((HS.rd 3 rfl).int (by omega) g120).k0 (Sub.refl _) (k.kp.none rfl)) sc3 rfl) ?_
  refine RT.lt rfl rfl rfl rfl (fun w' k => r_ian HS (k := 2) rfl sl24 g121.1 g121.2 rfl rfl) ?_
  refine RT.lt rfl rfl rfl rfl (fun w' k => r_fa (HS.nsAt 2 rfl (i := (y83.2.2.2.2.1.getD (0 : Int).toNat 0).toNat) (by omega)) fd72_1 rfl) ?_
  refine RT.lt rfl rfl rfl rfl (fun w' k => r_ld (v := (sh_c (y83.2.2.2.2.1.getD (0 : Int).toNat 0).toNat).2) (((k.phi (Phi.of (f := (fun (a : Bool × Bool) => [v_c_Nodes, v_c_Next, iv c_vars, .bool a.1, .bool a.2])) (y132.2.1, y132.2.2) HS 0 2 rfl rfl)).2 (y83.2.2.2.2.1.getD (0 : Int).toNat 0).toNat (by omega)).seg 1 1) sc25 rfl) ?_
  refine RT.lt rfl rfl rfl rfl (fun w' k => r_mv (v := iv a) rfl) ?_
  replace h := grd_some h; obtain ⟨g136, h⟩ := h
  refine RT.lt rfl rfl rfl rfl (fun w' k => r_ia (HS.nsR2 2 rfl (i := (y83.2.2.2.2.1.getD (0 : Int).toNat 0).toNat) (by omega)) sl25 g136.1 g136.2 rfl rfl) ?_
  replace h := bind_some h; obtain ⟨y138, e139, h⟩ := h
  refine RT.hy rfl rfl rfl rfl rfl (o_cs (vs := [.pointer (some ⟨g_c, 0, none⟩), eaddr (sh_c (y83.2.2.2.2.1.getD (0 : Int).toNat 0).toNat).2 (a.toNat * 1), iv 2]) (c_set_r2 (HS.sel (G := _ :: _ :: _ :: _ :: FR) [0, 1] 0 rfl).self g121.1 g121.2 g136.1 g136.2 e139) cf161 rfl) (fun _ _ ⟨_, HS2⟩ => km_st HS (Sub.refl _) (HS.kpH HS2) (fun _ h => h) (by kernel_rfl) (fun _ => (Phi.of (f := (fun (a : Bool × Bool) => [v_c_Nodes, v_c_Next, iv c_vars, .bool a.1, .bool a.2])) (y138.2.1, y138.2.2) HS2 0 1 rfl rfl))) ?_
  rintro _ w137 ⟨rfl, HS2⟩
  replace HS := (HS.sel (G := _ :: _ :: _ :: _ :: FR) [0, 1] 0 rfl).from HS2
  refine RT.nil (blk_nx (nx ?_))
  refine ex_seq ?_
  refine ex_region ?_
  refine ro_lt (r_mv (v := .pointer (some ⟨g_c, 0, none⟩)) rfl) rfl ?_
  refine ro_lt (r_nc (HS.boxAt 0 rfl) rfl) rfl ?_
  refine ro_lt (r_fa (HS.boxAt 0 rfl) fd95_0 rfl) rfl ?_
  refine ro_lt (r_fa ((HS.boxAt 0 rfl).seg 0 2) fd27_0 rfl) rfl ?_
  refine ro_lt (r_ld (((HS.boxAt 0 rfl).seg 0 2).seg 0 1) sc24 rfl) rfl ?_
  refine ro_lt (r_lenn (m := 4) HS (k := 1) rfl sl24 rfl) rfl ?_
  refine ro_lt (r_mv (v := iv 0) rfl) rfl ?_
  refine RO.nil (nx ?_)
  replace h := bind_some h; obtain ⟨y161, e162, h⟩ := h
  refine ex_lbo (fun (st : Bool × Bool × (List (List Int × List Int × Int × Int)) × Int) s' w' => Has s' [(0, .pointer (some ⟨g_c, 0, none⟩)), (1, iv a), (2, iv p), (6, (eaddr v_c_Nodes (p.toNat * 4))), (147, iv ((n_c : Int))), (148, iv st.2.2.2)] ∧ St w H w' (.bx g_c 95 [v_c_Nodes, v_c_Next, iv c_vars, .bool st.1, .bool st.2.1] :: .pr (NS 72 3 n_c v_c_Nodes sh_c st.2.2.1) :: .ow (.sl 3 (.int .i64)) (y126.2.2.1.set y126.1.toNat y132.1) [v_c_Next] :: .ow (.sl 3 (.int .i64)) y83.2.2.2.2.1 [v62] :: FR)) e162 ⟨⟨rfl, rfl, rfl, rfl, rfl, rfl, trivial⟩, HS⟩ ?_ ?_
  · rintro ⟨changed_143, bad_144, Nodes_145, i146⟩ c' s' w147 ⟨hs_, HS⟩ h
    rw [has_put hs_]; clear hs_
    try dsimp only at HS
    replace h : F_impl_sharpener_sourced_b4 n_c a y126 y132 p changed_143 bad_144 Nodes_145 i146 = some c' := h
    unfold F_impl_sharpener_sourced_b4 at h
    refine ex_seq ?_
    refine ex_region ?_
    refine ro_lt (r_lss rfl rfl) rfl ?_
    refine RO.nil (nx ?_)
    refine ex_seq ?_
    replace h := ite_some h; rcases h with ⟨c148, h⟩ | ⟨c148, h⟩
    rotate_left
    · refine ex_if_f rfl (decide_eq_false c148) ?_
      refine ex_exit (tq_exit ?_)
      obtain rfl := Option.some.inj h
      exact lq_out ⟨⟨rfl, rfl, rfl, rfl, rfl, rfl, trivial⟩, HS⟩
    refine ex_if_t rfl (decide_eq_true c148) ?_
    refine ex_skip (nx ?_)
    refine ex_seq ?_
    refine ex_block ?_
    refine ex_seq ?_
    refine ex_region ?_
    refine ro_lt (r_mv (v := iv i146) rfl) rfl ?_
    refine ro_lt (r_as (v := iv i146) rfl) rfl ?_
    refine RO.nil (nx ?_)
    refine ex_seq ?_
    refine ex_region ?_
    refine ro_lt (r_mv (v := .pointer (some ⟨g_c, 0, none⟩)) rfl) rfl ?_
    refine ro_lt (r_nc (HS.boxAt 0 rfl) rfl) rfl ?_
    refine ro_lt (r_fa (HS.boxAt 0 rfl) fd95_0 rfl) rfl ?_
    refine ro_lt (r_fa ((HS.boxAt 0 rfl).seg 0 2) fd27_0 rfl) rfl ?_
    refine ro_lt (r_ld (((HS.boxAt 0 rfl).seg 0 2).seg 0 1) sc24 rfl) rfl ?_
    refine ro_lt (r_mv (v := iv i146) rfl) rfl ?_
    replace h := grd_some h; obtain ⟨g149, h⟩ := h
    refine ro_lt (r_ian HS (k := 1) rfl sl24 g149.1 g149.2 rfl rfl) rfl ?_
    refine ro_lt (r_fa (HS.nsAt 1 rfl (i := i146.toNat) (by omega)) fd72_0 rfl) rfl ?_
    refine ro_lt (r_ld (v := (sh_c i146.toNat).1) ((HS.nsAt 1 rfl (i := i146.toNat) (by omega)).seg 0 1) sc25 rfl) rfl ?_
    refine ro_lt (r_mv (v := iv a) rfl) rfl ?_
    replace h := grd_some h; obtain ⟨g150, h⟩ := h
    refine ro_lt (r_ia (HS.nsR1 1 rfl (i := i146.toNat) (by omega)) sl25 g150.1 g150.2 rfl rfl) rfl ?_
    refine ro_lt (r_ld ((HS.nsR1 1 rfl (i := i146.toNat) (by omega)).int g150.1 g150.2) sc3 rfl) rfl ?_
    refine ro_lt (r_eql rfl rfl) rfl ?_
    refine ro_lt (r_mv (v := .bool ((decide (((Nodes_145.getD i146.toNat dN).1).getD a.toNat 0 = 2)))) rfl) rfl ?_
    replace h := ite_some h; rcases h with ⟨c151, h⟩ | ⟨c151, h⟩
    rotate_left
    · refine ro_off (sb (decide_eq_false c151)) rfl rfl ?_
      refine ro_off (sb (decide_eq_false c151)) rfl rfl ?_
      refine ro_off (sb (decide_eq_false c151)) rfl rfl ?_
      refine ro_off (sb (decide_eq_false c151)) rfl rfl ?_
      refine ro_off (sb (decide_eq_false c151)) rfl rfl ?_
      refine ro_off (sb (decide_eq_false c151)) rfl rfl ?_
      refine ro_off (sb (decide_eq_false c151)) rfl rfl ?_
      refine ro_off (sb (decide_eq_false c151)) rfl rfl ?_
      refine ro_lt (r_pickf (v := .bool false) (decide_eq_false c151) rfl rfl) rfl ?_
      refine RO.nil (nx ?_)
      refine ex_if_f rfl (rfl) ?_
      refine ex_skip (blk_nx (nx ?_))
      refine ex_region ?_
      refine ro_lt (r_addw rfl rfl) rfl ?_
      refine ro_lt (r_mv (v := iv (wi (i146 + 1))) rfl) rfl ?_
      refine RO.nil ?_
      obtain rfl := Option.some.inj h
      exact lq_go ⟨⟨rfl, rfl, rfl, rfl, rfl, rfl, trivial⟩, HS⟩
    refine ro_on (sb (decide_eq_true c151)) ?_
    refine ro_lt (r_mv (v := .pointer (some ⟨g_c, 0, none⟩)) rfl) rfl ?_
    refine ro_on (sb (decide_eq_true c151)) ?_
    refine ro_lt (r_nc (HS.boxAt 0 rfl) rfl) rfl ?_
    refine ro_on (sb (decide_eq_true c151)) ?_
    refine ro_lt (r_fa (HS.boxAt 0 rfl) fd95_0 rfl) rfl ?_
    refine ro_on (sb (decide_eq_true c151)) ?_
    refine ro_lt (r_lda ((HS.boxAt 0 rfl).seg 0 2) ag27 rfl rfl) rfl ?_
    refine ro_on (sb (decide_eq_true c151)) ?_
    refine ro_lt (r_mv (v := iv i146) rfl) rfl ?_
    refine ro_on (sb (decide_eq_true c151)) ?_
    refine ro_lt (r_mv (v := iv p) rfl) rfl ?_
    replace h := bind_some h; obtain ⟨y152, e153, h⟩ := h
    refine ro_on (sb (decide_eq_true c151)) ?_
    refine ro_hy (o_cf (vs := [.agg #[v_c_Nodes, v_c_Next], iv i146, iv p]) HS rfl (c_impl_PathOf (HS.nsRd 1 rfl) (HS.rd 2 rfl) e153) cf164 rfl) rfl ?_
    rintro _ w154 ⟨rfl, hb, HS⟩
    refine ro_on (sb (decide_eq_true c151)) ?_
    refine ro_lt (r_eql rfl rfl) rfl ?_
    refine ro_lt (r_pickt (v := .bool ((decide (y152 = 0)))) (decide_eq_true c151) rfl rfl) rfl ?_
    refine RO.nil (nx ?_)
    replace h := ite_some h; rcases h with ⟨c155, h⟩ | ⟨c155, h⟩
    rotate_left
    · refine ex_if_f rfl (decide_eq_false c155) ?_
      refine ex_skip (blk_nx (nx ?_))
      refine ex_region ?_
      refine ro_lt (r_addw rfl rfl) rfl ?_
      refine ro_lt (r_mv (v := iv (wi (i146 + 1))) rfl) rfl ?_
      refine RO.nil ?_
      obtain rfl := Option.some.inj h
      exact lq_go ⟨⟨rfl, rfl, rfl, rfl, rfl, rfl, trivial⟩, HS⟩
    refine ex_if_t rfl (decide_eq_true c155) ?_
    refine ex_region ?_
    refine ro_lt (r_mv (v := .pointer (some ⟨g_c, 0, none⟩)) rfl) rfl ?_
    refine ro_lt (r_mv (v := (eaddr v_c_Nodes (p.toNat * 4))) rfl) rfl ?_
    refine ro_lt (r_nc (HS.nsAt 1 rfl (i := p.toNat) (by omega)) rfl) rfl ?_
    refine ro_lt (r_fa (HS.nsAt 1 rfl (i := p.toNat) (by omega)) fd72_1 rfl) rfl ?_
    refine ro_lt (r_ld (v := (sh_c p.toNat).2) ((HS.nsAt 1 rfl (i := p.toNat) (by omega)).seg 1 1) sc25 rfl) rfl ?_
    refine ro_lt (r_mv (v := iv a) rfl) rfl ?_
    replace h := grd_some h; obtain ⟨g156, h⟩ := h
    refine ro_lt (r_ia (HS.nsR2 1 rfl (i := p.toNat) (by omega)) sl25 g156.1 g156.2 rfl rfl) rfl ?_
    replace h := bind_some h; obtain ⟨y158, e159, h⟩ := h
    refine ro_hy (o_cs (vs := [.pointer (some ⟨g_c, 0, none⟩), eaddr (sh_c p.toNat).2 (a.toNat * 1), iv 0]) (c_set_r2 HS.self g4.1 g4.2 g156.1 g156.2 e159) cf161 rfl) rfl ?_
    rintro _ w157 ⟨rfl, HS2⟩
    replace HS := HS.from HS2
    refine RO.nil (blk_nx (nx ?_))
    refine ex_region ?_
    refine ro_lt (r_addw rfl rfl) rfl ?_
    refine ro_lt (r_mv (v := iv (wi (i146 + 1))) rfl) rfl ?_
    refine RO.nil ?_
    obtain rfl := Option.some.inj h
    exact lq_go ⟨⟨rfl, rfl, rfl, rfl, rfl, rfl, trivial⟩, HS⟩
  rintro s' w163 ⟨hs_, HS⟩
  rw [has_put hs_]; clear hs_
  obtain rfl := Option.some.inj h
  exact ret0 (.inl rfl) rfl ⟨rfl, (HS.sel (G := _ :: _ :: _ :: FR) [0, 0, 0] 1 rfl)⟩
theorem c_impl_sharpener_followed {w : World} {H : Hp} {FR : List Ob} {g_c : Nat} {v_c_Nodes : Value} {n_c : Nat} {sh_c : Shp} {c_Nodes : List (List Int × List Int × Int × Int)} {v_c_Next : Value} {c_Next : List Int} {c_vars : Int} {c_changed : Bool} {c_bad : Bool} {z : Int} {u : Int} {v : Int} (HS : St w H w (.bx g_c 95 [v_c_Nodes, v_c_Next, iv c_vars, .bool c_changed, .bool c_bad] :: .pr (NS 72 3 n_c v_c_Nodes sh_c c_Nodes) :: .ow (.sl 3 (.int .i64)) c_Next [v_c_Next] :: FR)) {r : List (List Int × List Int × Int × Int) × List Int × Bool × Bool} (h : F_impl_sharpener_followed n_c c_Nodes c_Next c_vars c_changed c_bad z u v = some r) : Calls Try.prog 134 [.pointer (some ⟨g_c, 0, none⟩), iv z, iv u, iv v].toArray w (((fun r => PS (.tuple #[]) fun w' => St w H w' (.bx g_c 95 [v_c_Nodes, v_c_Next, iv c_vars, .bool r.2.2.1, .bool r.2.2.2] :: .pr (NS 72 3 n_c v_c_Nodes sh_c r.1) :: .ow (.sl 3 (.int .i64)) r.2.1 [v_c_Next] :: FR)) : (List (List Int × List Int × Int × Int) × List Int × Bool × Bool) → Ending → World → Prop) r) := by
  unfold F_impl_sharpener_followed at h
  refine calls_ex (n := 63) Try.func134 rfl Try.ntmps134 (Nat.le_of_ble_eq_true rfl) ?_
  refine ex_seq ?_
  refine ex_seq ?_
  refine ex_region ?_
  refine ro_lt (r_mv (v := .pointer (some ⟨g_c, 0, none⟩)) rfl) rfl ?_
  refine ro_lt (r_nc (HS.boxAt 0 rfl) rfl) rfl ?_
  refine ro_lt (r_fa (HS.boxAt 0 rfl) fd95_0 rfl) rfl ?_
  refine ro_lt (r_fa ((HS.boxAt 0 rfl).seg 0 2) fd27_0 rfl) rfl ?_
  refine ro_lt (r_ld (((HS.boxAt 0 rfl).seg 0 2).seg 0 1) sc24 rfl) rfl ?_
  refine ro_lt (r_mv (v := iv u) rfl) rfl ?_
  replace h := grd_some h; obtain ⟨g4, h⟩ := h
  refine ro_lt (r_ian HS (k := 1) rfl sl24 g4.1 g4.2 rfl rfl) rfl ?_
  refine ro_lt (r_fa (HS.nsAt 1 rfl (i := u.toNat) (by omega)) fd72_1 rfl) rfl ?_
  refine ro_lt (r_ld (v := (sh_c u.toNat).2) ((HS.nsAt 1 rfl (i := u.toNat) (by omega)).seg 1 1) sc25 rfl) rfl ?_
  refine ro_lt (r_mv (v := iv z) rfl) rfl ?_
  replace h := grd_some h; obtain ⟨g5, h⟩ := h
  refine ro_lt (r_ia (HS.nsR2 1 rfl (i := u.toNat) (by omega)) sl25 g5.1 g5.2 rfl rfl) rfl ?_
  refine ro_lt (r_ld ((HS.nsR2 1 rfl (i := u.toNat) (by omega)).int g5.1 g5.2) sc3 rfl) rfl ?_
  refine ro_lt (r_neq rfl rfl) rfl ?_
  refine RO.nil (nx ?_)
  replace h := ite_some h; rcases h with ⟨c6, h⟩ | ⟨c6, h⟩
  rotate_left
  · refine ex_if_t rfl (congrArg (!·) (decide_eq_false c6)) ?_
    obtain rfl := Option.some.inj h
    refine ex_ret (tq_ret ?_)
    exact ret0 (.inr rfl) rfl ⟨rfl, HS⟩
  refine ex_if_f rfl (congrArg (!·) (decide_eq_true c6)) ?_
  refine ex_skip (nx ?_)
  refine ex_seq ?_
  refine ex_region ?_
  refine ro_lt (r_mv (v := .pointer (some ⟨g_c, 0, none⟩)) rfl) rfl ?_
  refine ro_lt (r_mv (v := iv u) rfl) rfl ?_
  refine ro_lt (r_mv (v := iv v) rfl) rfl ?_
  replace h := bind_some h; obtain ⟨y7, e8, h⟩ := h
  replace h := grd_some h; obtain ⟨g10, h⟩ := h
  refine ro_hy (o_cs (vs := [.pointer (some ⟨g_c, 0, none⟩), iv u, iv v]) (c_impl_sharpener_next HS.self e8) cf163 rfl) rfl ?_
  rintro _ w9 ⟨rfl, HS2⟩
  replace HS := HS.from HS2
  refine ro_lt (r_nc ((HS.rd 2 rfl).int g10.1 g10.2) rfl) rfl ?_
  refine ro_lt (r_ld ((HS.rd 2 rfl).int g10.1 g10.2) sc3 rfl) rfl ?_
  refine RO.nil (nx ?_)
  refine ex_block ?_
  refine ex_seq ?_
  refine ex_region ?_
  refine ro_lt (r_eql rfl rfl) rfl ?_
  refine ro_lt (r_as (v := .bool ((decide (y7.2.2.1.getD y7.1.toNat 0 = 2)))) rfl) rfl ?_
  refine RO.nil (nx ?_)
  replace h := ite_some h; rcases h with ⟨c12, h⟩ | ⟨c12, h⟩
  · refine ex_if_t rfl (decide_eq_true c12) ?_
    refine ex_region ?_
    refine ro_lt (r_mv (v := .pointer (some ⟨g_c, 0, none⟩)) rfl) rfl ?_
    refine ro_lt (r_mv (v := .pointer (some ⟨g_c, 0, none⟩)) rfl) rfl ?_
    refine ro_lt (r_nc (HS.boxAt 0 rfl) rfl) rfl ?_
    refine ro_lt (r_fa (HS.boxAt 0 rfl) fd95_0 rfl) rfl ?_
    refine ro_lt (r_fa ((HS.boxAt 0 rfl).seg 0 2) fd27_0 rfl) rfl ?_
    refine ro_lt (r_ld (((HS.boxAt 0 rfl).seg 0 2).seg 0 1) sc24 rfl) rfl ?_
    refine ro_lt (r_mv (v := iv v) rfl) rfl ?_
    replace h := grd_some h; obtain ⟨g13, h⟩ := h
    refine ro_lt (r_ian HS (k := 1) rfl sl24 g13.1 g13.2 rfl rfl) rfl ?_
    refine ro_lt (r_fa (HS.nsAt 1 rfl (i := v.toNat) (by omega)) fd72_1 rfl) rfl ?_
    refine ro_lt (r_ld (v := (sh_c v.toNat).2) ((HS.nsAt 1 rfl (i := v.toNat) (by omega)).seg 1 1) sc25 rfl) rfl ?_
    refine ro_lt (r_mv (v := iv z) rfl) rfl ?_
    replace h := grd_some h; obtain ⟨g14, h⟩ := h
    refine ro_lt (r_ia (HS.nsR2 1 rfl (i := v.toNat) (by omega)) sl25 g14.1 g14.2 rfl rfl) rfl ?_
    replace h := bind_some h; obtain ⟨y16, e17, h⟩ := h
    refine ro_hy (o_cs (vs := [.pointer (some ⟨g_c, 0, none⟩), eaddr (sh_c v.toNat).2 (z.toNat * 1), iv 2]) (c_set_r2 HS.self g13.1 g13.2 g14.1 g14.2 e17) cf161 rfl) rfl ?_
    rintro _ w15 ⟨rfl, HS2⟩
    replace HS := HS.from HS2
    refine RO.nil (blk_nx ?_)
    obtain rfl := Option.some.inj h
    exact ret0 (.inl rfl) rfl ⟨rfl, HS⟩
  refine ex_if_f rfl (decide_eq_false c12) ?_
  refine ex_seq ?_
  refine ex_region ?_
  refine ro_lt (r_eql rfl rfl) rfl ?_
  refine ro_lt (r_as (v := .bool ((decide (y7.2.2.1.getD y7.1.toNat 0 = 1)))) rfl) rfl ?_
  refine RO.nil (nx ?_)
  replace h := ite_some h; rcases h with ⟨c19, h⟩ | ⟨c19, h⟩
  rotate_left
  · refine ex_if_f rfl (decide_eq_false c19) ?_
    refine ex_skip (blk_nx ?_)
    obtain rfl := Option.some.inj h
    exact ret0 (.inl rfl) rfl ⟨rfl, HS⟩
  refine ex_if_t rfl (decide_eq_true c19) ?_
  refine ex_seq ?_
  refine ex_region ?_
  refine ro_lt (r_mv (v := .pointer (some ⟨g_c, 0, none⟩)) rfl) rfl ?_
  refine ro_lt (r_nc (HS.boxAt 0 rfl) rfl) rfl ?_
  refine ro_lt (r_fa (HS.boxAt 0 rfl) fd95_0 rfl) rfl ?_
  refine ro_lt (r_fa ((HS.boxAt 0 rfl).seg 0 2) fd27_0 rfl) rfl ?_
  refine ro_lt (r_ld (((HS.boxAt 0 rfl).seg 0 2).seg 0 1) sc24 rfl) rfl ?_
  refine ro_lt (r_mv (v := iv v) rfl) rfl ?_
  replace h := grd_some h; obtain ⟨g20, h⟩ := h
  refine ro_lt (r_ian HS (k := 1) rfl sl24 g20.1 g20.2 rfl rfl) rfl ?_
  refine ro_lt (r_fa (HS.nsAt 1 rfl (i := v.toNat) (by omega)) fd72_1 rfl) rfl ?_
  refine ro_lt (r_ld (v := (sh_c v.toNat).2) ((HS.nsAt 1 rfl (i := v.toNat) (by omega)).seg 1 1) sc25 rfl) rfl ?_
  refine ro_lt (r_mv (v := iv z) rfl) rfl ?_
  replace h := grd_some h; obtain ⟨g21, h⟩ := h
  refine ro_lt (r_ia (HS.nsR2 1 rfl (i := v.toNat) (by omega)) sl25 g21.1 g21.2 rfl rfl) rfl ?_
  refine ro_lt (r_ld ((HS.nsR2 1 rfl (i := v.toNat) (by omega)).int g21.1 g21.2) sc3 rfl) rfl ?_
  refine ro_lt (r_eql rfl rfl) rfl ?_
  refine RO.nil (nx ?_)
  replace h := ite_some h; rcases h with ⟨c22, h⟩ | ⟨c22, h⟩
  rotate_left
  · refine ex_if_f rfl (decide_eq_false c22) ?_
    refine ex_skip (blk_nx ?_)
    obtain rfl := Option.some.inj h
    exact ret0 (.inl rfl) rfl ⟨rfl, HS⟩
  refine ex_if_t rfl (decide_eq_true c22) ?_
  refine ex_region ?_
  refine ro_lt (r_mv (v := .pointer (some ⟨g_c, 0, none⟩)) rfl) rfl ?_
  refine ro_lt (r_mv (v := .pointer (some ⟨g_c, 0, none⟩)) rfl) rfl ?_
  refine ro_lt (r_mv (v := iv u) rfl) rfl ?_
  refine ro_lt (r_mv (v := iv v) rfl) rfl ?_
  replace h := bind_some h; obtain ⟨y23, e24, h⟩ := h
  replace h := grd_some h; obtain ⟨g26, h⟩ := h
  refine ro_hy (o_cs (vs := [.pointer (some ⟨g_c, 0, none⟩), iv u, iv v]) (c_impl_sharpener_next HS.self e24) cf163 rfl) rfl ?_
  rintro _ w25 ⟨rfl, HS2⟩
  replace HS := HS.from HS2
  replace h := bind_some h; obtain ⟨y29, e30, h⟩ := h
  refine ro_hy (o_cs (vs := [.pointer (some ⟨g_c, 0, none⟩), eaddr v_c_Next (y23.1.toNat * 1), iv 0]) (c_set_x (HS.sel (G := _ :: _ :: _ :: FR) [0, 1] 0 rfl).self g26.1 g26.2 e30) cf161 rfl) rfl ?_
  rintro _ w28 ⟨rfl, HS2⟩
  replace HS := (HS.sel (G := _ :: _ :: _ :: FR) [0, 1] 0 rfl).from HS2
  refine RO.nil (blk_nx ?_)
  obtain rfl := Option.some.inj h
  exact ret0 (.inl rfl) rfl ⟨rfl, (HS.sel (G := _ :: _ :: _ :: FR) [0, 1, 0] 0 rfl)⟩
end Go.Proofs.Ytpfibofoeblapaa
