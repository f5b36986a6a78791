/- Walks, printed. -/
import Derived.Test.YtpfibofoeblapaaCB2
set_option linter.unusedVariables false
set_option linter.unusedSimpArgs false
namespace Go.Proofs.Ytpfibofoeblapaa
open Go Go.RowKit
set_option maxRecDepth 20000
set_option maxHeartbeats 4000000
theorem c_impl_sharpener_acyclic {w : World} {H : Hp} {FR : List Ob} {g_c : Nat} {v_c_Nodes : Value} {n_c : Nat} {sh_c : Shp} {c_Nodes : List (List Int × List Int × Int × Int)} {v_c_Next : Value} {c_Next : List Int} {c_vars : Int} {c_changed : Bool} {c_bad : Bool} {u : Int} (HS : St w H w (.bx g_c 95 [v_c_Nodes, v_c_Next, iv c_vars, .bool c_changed, .bool c_bad] :: .pr (NS 72 3 n_c v_c_Nodes sh_c c_Nodes) :: .ow (.sl 3 (.int .i64)) c_Next [v_c_Next] :: FR)) {r : List (List Int × List Int × Int × Int) × List Int × Bool × Bool} (h : F_impl_sharpener_acyclic n_c c_Nodes c_Next c_vars c_changed c_bad u = some r) : Calls Try.prog 135 [.pointer (some ⟨g_c, 0, none⟩), iv u].toArray w (((fun r => PS (.tuple #[]) fun w' => St w H w' (.bx g_c 95 [v_c_Nodes, v_c_Next, iv c_vars, .bool r.2.2.1, .bool r.2.2.2] :: .pr (NS 72 3 n_c v_c_Nodes sh_c r.1) :: .ow (.sl 3 (.int .i64)) r.2.1 [v_c_Next] :: FR)) : (List (List Int × List Int × Int × Int) × List Int × Bool × Bool) → Ending → World → Prop) r) := by
  unfold F_impl_sharpener_acyclic at h
  refine calls_ex (n := 74) Try.func135 rfl Try.ntmps135 (Nat.le_of_ble_eq_true rfl) ?_
  refine ex_seq ?_
  refine ex_seq ?_
  refine ex_region ?_
  refine ro_lt (r_mv (v := .pointer (some ⟨g_c, 0, none⟩)) rfl) rfl ?_
  refine ro_lt (r_nc (HS.boxAt 0 rfl) rfl) rfl ?_
  refine ro_lt (r_fa (HS.boxAt 0 rfl) fd95_0 rfl) rfl ?_
  refine ro_lt (r_fa ((HS.boxAt 0 rfl).seg 0 2) fd27_0 rfl) rfl ?_
  refine ro_lt (r_ld (((HS.boxAt 0 rfl).seg 0 2).seg 0 1) sc24 rfl) rfl ?_
  refine ro_lt (r_mv (v := iv u) rfl) rfl ?_
  replace h := grd_some h; obtain ⟨g4, h⟩ := h
  refine ro_lt (r_ian HS (k := 1) rfl sl24 g4.1 g4.2 rfl rfl) rfl ?_
  refine ro_lt (r_fa (HS.nsAt 1 rfl (i := u.toNat) (by omega)) fd72_3 rfl) rfl ?_
  refine ro_lt (r_ld (v := iv ((c_Nodes.getD u.toNat dN).2.2.2)) ((HS.nsAt 1 rfl (i := u.toNat) (by omega)).seg 3 1) sc3 rfl) rfl ?_
  refine ro_lt (r_eql rfl rfl) rfl ?_
  refine RO.nil (nx ?_)
  replace h := ite_some h; rcases h with ⟨c5, h⟩ | ⟨c5, h⟩
  rotate_left
  · refine ex_if_f rfl (decide_eq_false c5) ?_
    refine ex_skip (nx ?_)
    refine ex_seq ?_
    refine ex_region ?_
    refine ro_lt (r_mv (v := .pointer (some ⟨g_c, 0, none⟩)) rfl) rfl ?_
    refine ro_lt (r_nc (HS.boxAt 0 rfl) rfl) rfl ?_
    refine ro_lt (r_fa (HS.boxAt 0 rfl) fd95_1 rfl) rfl ?_
    refine ro_lt (r_ld ((HS.boxAt 0 rfl).seg 2 1) sc3 rfl) rfl ?_
    refine ro_lt (r_mv (v := iv 0) rfl) rfl ?_
    refine RO.nil (nx ?_)
    replace h := bind_some h; obtain ⟨y100, e101, h⟩ := h
    refine ex_lbo (fun (st : Bool × Bool × (List (List Int × List Int × Int × Int)) × (List Int) × Int) s' w' => Has s' [(0, .pointer (some ⟨g_c, 0, none⟩)), (1, iv u), (25, iv c_vars), (26, iv st.2.2.2.2)] ∧ St w H w' (.bx g_c 95 [v_c_Nodes, v_c_Next, iv c_vars, .bool st.1, .bool st.2.1] :: .pr (NS 72 3 n_c v_c_Nodes sh_c st.2.2.1) :: .ow (.sl 3 (.int .i64)) st.2.2.2.1 [v_c_Next] :: FR)) e101 ⟨⟨rfl, rfl, rfl, rfl, trivial⟩, HS⟩ ?_ ?_
    · rintro ⟨changed_65, bad_66, Nodes_67, Next_68, i69⟩ c' s' w70 ⟨hs_, HS⟩ h
      rw [has_put hs_]; clear hs_
      try dsimp only at HS
      replace h : F_impl_sharpener_acyclic_b2 c_vars n_c u changed_65 bad_66 Nodes_67 Next_68 i69 = some c' := h
      unfold F_impl_sharpener_acyclic_b2 at h
      refine ex_seq ?_
      refine ex_region ?_
      refine ro_lt (r_lss rfl rfl) rfl ?_
      refine RO.nil (nx ?_)
      refine ex_seq ?_
      replace h := ite_some h; rcases h with ⟨c71, h⟩ | ⟨c71, h⟩
      rotate_left
      · refine ex_if_f rfl (decide_eq_false c71) ?_
        refine ex_exit (tq_exit ?_)
        obtain rfl := Option.some.inj h
        exact lq_out ⟨⟨rfl, rfl, rfl, rfl, trivial⟩, HS⟩
      refine ex_if_t rfl (decide_eq_true c71) ?_
      refine ex_skip (nx ?_)
      refine ex_seq ?_
      refine ex_block ?_
      refine ex_seq ?_
      refine ex_region ?_
      refine ro_lt (r_mv (v := iv i69) rfl) rfl ?_
      refine ro_lt (r_as (v := iv i69) rfl) rfl ?_
      refine RO.nil (nx ?_)
      refine ex_seq ?_
      refine ex_region ?_
      refine ro_lt (r_mv (v := .pointer (some ⟨g_c, 0, none⟩)) rfl) rfl ?_
      refine ro_lt (r_nc (HS.boxAt 0 rfl) rfl) rfl ?_
      refine ro_lt (r_fa (HS.boxAt 0 rfl) fd95_0 rfl) rfl ?_
      refine ro_lt (r_fa ((HS.boxAt 0 rfl).seg 0 2) fd27_0 rfl) rfl ?_
      refine ro_lt (r_ld (((HS.boxAt 0 rfl).seg 0 2).seg 0 1) sc24 rfl) rfl ?_
      have b72 := HS.nsBig 1 rfl
      refine ro_lt (r_lenn (m := 4) HS (k := 1) rfl sl24 rfl) rfl ?_
      refine ro_lt (r_mv (v := iv 0) rfl) rfl ?_
      refine RO.nil (nx ?_)
      replace h := bind_some h; obtain ⟨y96, e97, h⟩ := h
      refine ex_lbo (fun (st : Bool × Bool × (List (List Int × List Int × Int × Int)) × (List Int) × Int) s' w' => Has s' [(0, .pointer (some ⟨g_c, 0, none⟩)), (1, iv u), (4, iv i69), (25, iv c_vars), (26, iv i69), (34, iv ((n_c : Int))), (35, iv st.2.2.2.2)] ∧ St w H w' (.bx g_c 95 [v_c_Nodes, v_c_Next, iv c_vars, .bool st.1, .bool st.2.1] :: .pr (NS 72 3 n_c v_c_Nodes sh_c st.2.2.1) :: .ow (.sl 3 (.int .i64)) st.2.2.2.1 [v_c_Next] :: FR)) e97 ⟨⟨rfl, rfl, rfl, rfl, rfl, rfl, rfl, trivial⟩, HS⟩ ?_ ?_
      · rintro ⟨changed_75, bad_76, Nodes_77, Next_78, i79⟩ c' s' w80 ⟨hs_, HS⟩ h
        rw [has_put hs_]; clear hs_
        try dsimp only at HS
        replace h : F_impl_sharpener_acyclic_b1 n_c i69 u c_vars changed_75 bad_76 Nodes_77 Next_78 i79 = some c' := h
        unfold F_impl_sharpener_acyclic_b1 at h
        refine ex_seq ?_
        refine ex_region ?_
        refine ro_lt (r_lss rfl rfl) rfl ?_
        refine RO.nil (nx ?_)
        refine ex_seq ?_
        replace h := ite_some h; rcases h with ⟨c81, h⟩ | ⟨c81, h⟩
        rotate_left
        · refine ex_if_f rfl (decide_eq_false c81) ?_
          refine ex_exit (tq_exit ?_)
          obtain rfl := Option.some.inj h
          exact lq_out ⟨⟨rfl, rfl, rfl, rfl, rfl, rfl, rfl, trivial⟩, HS⟩
        refine ex_if_t rfl (decide_eq_true c81) ?_
        refine ex_skip (nx ?_)
        refine ex_seq ?_
        refine ex_block ?_
        refine ex_seq ?_
        refine ex_region ?_
        refine ro_lt (r_mv (v := iv i79) rfl) rfl ?_
        refine ro_lt (r_as (v := iv i79) rfl) rfl ?_
        refine RO.nil (nx ?_)
        refine ex_seq ?_
        refine ex_region ?_
        refine ro_lt (r_mv (v := .pointer (some ⟨g_c, 0, none⟩)) rfl) rfl ?_
        refine ro_lt (r_nc (HS.boxAt 0 rfl) rfl) rfl ?_
        refine ro_lt (r_fa (HS.boxAt 0 rfl) fd95_0 rfl) rfl ?_
        refine ro_lt (r_fa ((HS.boxAt 0 rfl).seg 0 2) fd27_0 rfl) rfl ?_
        refine ro_lt (r_ld (((HS.boxAt 0 rfl).seg 0 2).seg 0 1) sc24 rfl) rfl ?_
        refine ro_lt (r_mv (v := iv u) rfl) rfl ?_
        refine ro_lt (r_ian HS (k := 1) rfl sl24 g4.1 g4.2 rfl rfl) rfl ?_
        refine ro_lt (r_fa (HS.nsAt 1 rfl (i := u.toNat) (by omega)) fd72_0 rfl) rfl ?_
        refine ro_lt (r_ld (v := (sh_c u.toNat).1) ((HS.nsAt 1 rfl (i := u.toNat) (by omega)).seg 0 1) sc25 rfl) rfl ?_
        refine ro_lt (r_mv (v := iv i69) rfl) rfl ?_
        replace h := grd_some h; obtain ⟨g82, h⟩ := h
        refine ro_lt (r_ia (HS.nsR1 1 rfl (i := u.toNat) (by omega)) sl25 g82.1 g82.2 rfl rfl) rfl ?_
        refine ro_lt (r_ld ((HS.nsR1 1 rfl (i := u.toNat) (by omega)).int g82.1 g82.2) sc3 rfl) rfl ?_
        refine ro_lt (r_eql rfl rfl) rfl ?_
        refine ro_lt (r_mv (v := .bool ((decide (((Nodes_77.getD u.toNat dN).1).getD i69.toNat 0 = 2)))) rfl) rfl ?_
        replace h := ite_some h; rcases h with ⟨c83, h⟩ | ⟨c83, h⟩
        rotate_left
        · refine ro_off (sb (decide_eq_false c83)) rfl rfl ?_
          refine ro_off (sb (decide_eq_false c83)) rfl rfl ?_
          refine ro_off (sb (decide_eq_false c83)) rfl rfl ?_
          refine ro_off (sb (decide_eq_false c83)) rfl rfl ?_
          refine ro_off (sb (decide_eq_false c83)) rfl rfl ?_
          refine ro_off (sb (decide_eq_false c83)) rfl rfl ?_
          refine ro_off (sb (decide_eq_false c83)) rfl rfl ?_
          refine ro_off (sb (decide_eq_false c83)) rfl rfl ?_
          refine ro_off (sb (decide_eq_false c83)) rfl rfl ?_
          refine ro_off (sb (decide_eq_false c83)) rfl rfl ?_
          refine ro_off (sb (decide_eq_false c83)) rfl rfl ?_
          refine ro_off (sb (decide_eq_false c83)) rfl rfl ?_
          refine ro_off (sb (decide_eq_false c83)) rfl rfl ?_
          refine ro_lt (r_pickf (v := .bool false) (decide_eq_false c83) rfl rfl) rfl ?_
          refine RO.nil (nx ?_)
          refine ex_if_f rfl (rfl) ?_
          refine ex_skip (blk_nx (nx ?_))
          refine ex_region ?_
          refine ro_lt (r_addw rfl rfl) rfl ?_
          refine ro_lt (r_mv (v := iv (wi (i79 + 1))) rfl) rfl ?_
          refine RO.nil ?_
          obtain rfl := Option.some.inj h
          exact lq_go ⟨⟨rfl, rfl, rfl, rfl, rfl, rfl, rfl, trivial⟩, HS⟩
        refine ro_on (sb (decide_eq_true c83)) ?_
        refine ro_lt (r_mv (v := .pointer (some ⟨g_c, 0, none⟩)) rfl) rfl ?_
        refine ro_on (sb (decide_eq_true c83)) ?_
        refine ro_lt (r_nc (HS.boxAt 0 rfl) rfl) rfl ?_
        refine ro_on (sb (decide_eq_true c83)) ?_
        refine ro_lt (r_fa (HS.boxAt 0 rfl) fd95_0 rfl) rfl ?_
        refine ro_on (sb (decide_eq_true c83)) ?_
        refine ro_lt (r_fa ((HS.boxAt 0 rfl).seg 0 2) fd27_0 rfl) rfl ?_
        refine ro_on (sb (decide_eq_true c83)) ?_
        refine ro_lt (r_ld (((HS.boxAt 0 rfl).seg 0 2).seg 0 1) sc24 rfl) rfl ?_
        refine ro_on (sb (decide_eq_true c83)) ?_
        refine ro_lt (r_mv (v := iv i79) rfl) rfl ?_
        replace h := grd_some h; obtain ⟨g84, h⟩ := h
        refine ro_on (sb (decide_eq_true c83)) ?_
        refine ro_lt (r_ian HS (k := 1) rfl sl24 g84.1 g84.2 rfl rfl) rfl ?_
        refine ro_on (sb (decide_eq_true c83)) ?_
        refine ro_lt (r_fa (HS.nsAt 1 rfl (i := i79.toNat) (by omega)) fd72_1 rfl) rfl ?_
        refine ro_on (sb (decide_eq_true c83)) ?_
        refine ro_lt (r_ld (v := (sh_c i79.toNat).2) ((HS.nsAt 1 rfl (i := i79.toNat) (by omega)).seg 1 1) sc25 rfl) rfl ?_
        refine ro_on (sb (decide_eq_true c83)) ?_
        refine ro_lt (r_mv (v := iv i69) rfl) rfl ?_
        replace h := grd_some h; obtain ⟨g85, h⟩ := h
        refine ro_on (sb (decide_eq_true c83)) ?_
        refine ro_lt (r_ia (HS.nsR2 1 rfl (i := i79.toNat) (by omega)) sl25 g85.1 g85.2 rfl rfl) rfl ?_
        refine ro_on (sb (decide_eq_true c83)) ?_
        refine ro_lt (r_ld ((HS.nsR2 1 rfl (i := i79.toNat) (by omega)).int g85.1 g85.2) sc3 rfl) rfl ?_
        refine ro_on (sb (decide_eq_true c83)) ?_
        refine ro_lt (r_eql rfl rfl) rfl ?_
        refine ro_lt (r_pickt (v := .bool ((decide (((Nodes_77.getD i79.toNat dN).2.1).getD i69.toNat 0 = 2)))) (decide_eq_true c83) rfl rfl) rfl ?_
        refine RO.nil (nx ?_)
        replace h := ite_some h; rcases h with ⟨c86, h⟩ | ⟨c86, h⟩
        rotate_left
        · refine ex_if_f rfl (decide_eq_false c86) ?_
          refine ex_skip (blk_nx (nx ?_))
          refine ex_region ?_
          refine ro_lt (r_addw rfl rfl) rfl ?_
          refine ro_lt (r_mv (v := iv (wi (i79 + 1))) rfl) rfl ?_
          refine RO.nil ?_
          obtain rfl := Option.some.inj h
          exact lq_go ⟨⟨rfl, rfl, rfl, rfl, rfl, rfl, rfl, trivial⟩, HS⟩
        refine ex_if_t rfl (decide_eq_true c86) ?_
        refine ex_region ?_
        refine ro_lt (r_mv (v := .pointer (some ⟨g_c, 0, none⟩)) rfl) rfl ?_
        refine ro_lt (r_mv (v := .pointer (some ⟨g_c, 0, none⟩)) rfl) rfl ?_
        refine ro_lt (r_mv (v := iv i79) rfl) rfl ?_
        refine ro_lt (r_mv (v := iv u) rfl) rfl ?_
        replace h := bind_some h; obtain ⟨y87, e88, h⟩ := h
        replace h := grd_some h; obtain ⟨g90, h⟩ := h
        refine ro_hy (o_cs (vs := [.pointer (some ⟨g_c, 0, none⟩), iv i79, iv u]) (c_impl_sharpener_next HS.self e88) cf163 rfl) rfl ?_
        rintro _ w89 ⟨rfl, HS2⟩
        replace HS := HS.from HS2
        replace h := bind_some h; obtain ⟨y93, e94, h⟩ := h
        refine ro_hy (o_cs (vs := [.pointer (some ⟨g_c, 0, none⟩), eaddr v_c_Next (y87.1.toNat * 1), iv 0]) (c_set_x (HS.sel (G := _ :: _ :: _ :: FR) [0, 1] 0 rfl).self g90.1 g90.2 e94) cf161 rfl) rfl ?_
        rintro _ w92 ⟨rfl, HS2⟩
        replace HS := (HS.sel (G := _ :: _ :: _ :: FR) [0, 1] 0 rfl).from HS2
        refine RO.nil (blk_nx (nx ?_))
        refine ex_region ?_
        refine ro_lt (r_addw rfl rfl) rfl ?_
        refine ro_lt (r_mv (v := iv (wi (i79 + 1))) rfl) rfl ?_
        refine RO.nil ?_
        obtain rfl := Option.some.inj h
        exact lq_go ⟨⟨rfl, rfl, rfl, rfl, rfl, rfl, rfl, trivial⟩, (HS.sel (G := _ :: _ :: _ :: FR) [0, 1, 0] 0 rfl)⟩
      rintro s' w98 ⟨hs_, HS⟩
      rw [has_put hs_]; clear hs_
      refine (blk_nx (nx ?_))
      refine ex_region ?_
      refine ro_lt (r_addw rfl rfl) rfl ?_
      refine ro_lt (r_mv (v := iv (wi (i69 + 1))) rfl) rfl ?_
      refine RO.nil ?_
      obtain rfl := Option.some.inj h
      exact lq_go ⟨⟨rfl, rfl, rfl, rfl, trivial⟩, HS⟩
    rintro s' w102 ⟨hs_, HS⟩
    rw [has_put hs_]; clear hs_
    obtain rfl := Option.some.inj h
    exact ret0 (.inl rfl) rfl ⟨rfl, HS⟩
  refine ex_if_t rfl (decide_eq_true c5) ?_
  refine ex_region ?_
  refine ro_lt (r_mv (v := .pointer (some ⟨g_c, 0, none⟩)) rfl) rfl ?_
  refine ro_lt (r_mv (v := .pointer (some ⟨g_c, 0, none⟩)) rfl) rfl ?_
  refine ro_lt (r_mv (v := iv u) rfl) rfl ?_
  refine ro_lt (r_mv (v := iv u) rfl) rfl ?_
  replace h := bind_some h; obtain ⟨y6, e7, h⟩ := h
  replace h := grd_some h; obtain ⟨g9, h⟩ := h
  refine ro_hy (o_cs (vs := [.pointer (some ⟨g_c, 0, none⟩), iv u, iv u]) (c_impl_sharpener_next HS.self e7) cf163 rfl) rfl ?_
  rintro _ w8 ⟨rfl, HS2⟩
  replace HS := HS.from HS2
  replace h := bind_some h; obtain ⟨y12, e13, h⟩ := h
  refine ro_hy (o_cs (vs := [.pointer (some ⟨g_c, 0, none⟩), eaddr v_c_Next (y6.1.toNat * 1), iv 0]) (c_set_x (HS.sel (G := _ :: _ :: _ :: FR) [0, 1] 0 rfl).self g9.1 g9.2 e13) cf161 rfl) rfl ?_
  rintro _ w11 ⟨rfl, HS2⟩
  replace HS := (HS.sel (G := _ :: _ :: _ :: FR) [0, 1] 0 rfl).from HS2
  refine RO.nil (nx ?_)
  refine ex_seq ?_
  refine ex_region ?_
  refine ro_lt (r_mv (v := .pointer (some ⟨g_c, 0, none⟩)) rfl) rfl ?_
  refine ro_lt (r_nc (HS.boxAt 0 rfl) rfl) rfl ?_
  refine ro_lt (r_fa (HS.boxAt 0 rfl) fd95_1 rfl) rfl ?_
  refine ro_lt (r_ld ((HS.boxAt 0 rfl).seg 2 1) sc3 rfl) rfl ?_
  refine ro_lt (r_mv (v := iv 0) rfl) rfl ?_
  refine RO.nil (nx ?_)
  replace h := bind_some h; obtain ⟨y59, e60, h⟩ := h
  refine ex_lbo (fun (st : Bool × Bool × (List (List Int × List Int × Int × Int)) × (List Int) × Int) s' w' => Has s' [(0, .pointer (some ⟨g_c, 0, none⟩)), (1, iv u), (25, iv c_vars), (26, iv st.2.2.2.2)] ∧ St w H w' (.bx g_c 95 [v_c_Nodes, v_c_Next, iv c_vars, .bool st.1, .bool st.2.1] :: .ow (.sl 3 (.int .i64)) st.2.2.2.1 [v_c_Next] :: .pr (NS 72 3 n_c v_c_Nodes sh_c st.2.2.1) :: FR)) e60 ⟨⟨rfl, rfl, rfl, rfl, trivial⟩, HS⟩ ?_ ?_
  · rintro ⟨changed_24, bad_25, Nodes_26, Next_27, i28⟩ c' s' w29 ⟨hs_, HS⟩ h
    rw [has_put hs_]; clear hs_
    try dsimp only at HS
    replace h : F_impl_sharpener_acyclic_b2 c_vars n_c u changed_24 bad_25 Nodes_26 Next_27 i28 = some c' := h
    unfold F_impl_sharpener_acyclic_b2 at h
    refine ex_seq ?_
    refine ex_region ?_
    refine ro_lt (r_lss rfl rfl) rfl ?_
    refine RO.nil (nx ?_)
    refine ex_seq ?_
    replace h := ite_some h; rcases h with ⟨c30, h⟩ | ⟨c30, h⟩
    rotate_left
    · refine ex_if_f rfl (decide_eq_false c30) ?_
      refine ex_exit (tq_exit ?_)
      obtain rfl := Option.some.inj h
      exact lq_out ⟨⟨rfl, rfl, rfl, rfl, trivial⟩, HS⟩
    refine ex_if_t rfl (decide_eq_true c30) ?_
    refine ex_skip (nx ?_)
    refine ex_seq ?_
    refine ex_block ?_
    refine ex_seq ?_
    refine ex_region ?_
    refine ro_lt (r_mv (v := iv i28) rfl) rfl ?_
    refine ro_lt (r_as (v := iv i28) rfl) rfl ?_
    refine RO.nil (nx ?_)
    refine ex_seq ?_
    refine ex_region ?_
    refine ro_lt (r_mv (v := .pointer (some ⟨g_c, 0, none⟩)) rfl) rfl ?_
    refine ro_lt (r_nc (HS.boxAt 0 rfl) rfl) rfl ?_
    refine ro_lt (r_fa (HS.boxAt 0 rfl) fd95_0 rfl) rfl ?_
    refine ro_lt (r_fa ((HS.boxAt 0 rfl).seg 0 2) fd27_0 rfl) rfl ?_
    refine ro_lt (r_ld (((HS.boxAt 0 rfl).seg 0 2).seg 0 1) sc24 rfl) rfl ?_
    have b31 := HS.nsBig 2 rfl
    refine ro_lt (r_lenn (m := 4) HS (k := 2) rfl sl24 rfl) rfl ?_
    refine ro_lt (r_mv (v := iv 0) rfl) rfl ?_
    refine RO.nil (nx ?_)
    replace h := bind_some h; obtain ⟨y55, e56, h⟩ := h
    refine ex_lbo (fun (st : Bool × Bool × (List (List Int × List Int × Int × Int)) × (List Int) × Int) s' w' => Has s' [(0, .pointer (some ⟨g_c, 0, none⟩)), (1, iv u), (4, iv i28), (25, iv c_vars), (26, iv i28), (34, iv ((n_c : Int))), (35, iv st.2.2.2.2)] ∧ St w H w' (.bx g_c 95 [v_c_Nodes, v_c_Next, iv c_vars, .bool st.1, .bool st.2.1] :: .ow (.sl 3 (.int .i64)) st.2.2.2.1 [v_c_Next] :: .pr (NS 72 3 n_c v_c_Nodes sh_c st.2.2.1) :: FR)) e56 ⟨⟨rfl, rfl, rfl, rfl, rfl, rfl, rfl, trivial⟩, HS⟩ ?_ ?_
    · rintro ⟨changed_34, bad_35, Nodes_36, Next_37, i38⟩ c' s' w39 ⟨hs_, HS⟩ h
      rw [has_put hs_]; clear hs_
      try dsimp only at HS
      replace h : F_impl_sharpener_acyclic_b1 n_c i28 u c_vars changed_34 bad_35 Nodes_36 Next_37 i38 = some c' := h
      unfold F_impl_sharpener_acyclic_b1 at h
      refine ex_seq ?_
      refine ex_region ?_
      refine ro_lt (r_lss rfl rfl) rfl ?_
      refine RO.nil (nx ?_)
      refine ex_seq ?_
      replace h := ite_some h; rcases h with ⟨c40, h⟩ | ⟨c40, h⟩
      rotate_left
      · refine ex_if_f rfl (decide_eq_false c40) ?_
        refine ex_exit (tq_exit ?_)
        obtain rfl := Option.some.inj h
        exact lq_out ⟨⟨rfl, rfl, rfl, rfl, rfl, rfl, rfl, trivial⟩, HS⟩
      refine ex_if_t rfl (decide_eq_true c40) ?_
      refine ex_skip (nx ?_)
      refine ex_seq ?_
      refine ex_block ?_
      refine ex_seq ?_
      refine ex_region ?_
      refine ro_lt (r_mv (v := iv i38) rfl) rfl ?_
      refine ro_lt (r_as (v := iv i38) rfl) rfl ?_
      refine RO.nil (nx ?_)
      refine ex_seq ?_
      refine ex_region ?_
      refine ro_lt (r_mv (v := .pointer (some ⟨g_c, 0, none⟩)) rfl) rfl ?_
      refine ro_lt (r_nc (HS.boxAt 0 rfl) rfl) rfl ?_
      refine ro_lt (r_fa (HS.boxAt 0 rfl) fd95_0 rfl) rfl ?_
      refine ro_lt (r_fa ((HS.boxAt 0 rfl).seg 0 2) fd27_0 rfl) rfl ?_
      refine ro_lt (r_ld (((HS.boxAt 0 rfl).seg 0 2).seg 0 1) sc24 rfl) rfl ?_
      refine ro_lt (r_mv (v := iv u) rfl) rfl ?_
      refine ro_lt (r_ian HS (k := 2) rfl sl24 g4.1 g4.2 rfl rfl) rfl ?_
      refine ro_lt (r_fa (HS.nsAt 2 rfl (i := u.toNat) (by omega)) fd72_0 rfl) rfl ?_
      refine ro_lt (r_ld (v := (sh_c u.toNat).1) ((HS.nsAt 2 rfl (i := u.toNat) (by omega)).seg 0 1) sc25 rfl) rfl ?_
      refine ro_lt (r_mv (v := iv i28) rfl) rfl ?_
      replace h := grd_some h; obtain ⟨g41, h⟩ := h
      refine ro_lt (r_ia (HS.nsR1 2 rfl (i := u.toNat) (by omega)) sl25 g41.1 g41.2 rfl rfl) rfl ?_
      refine ro_lt (r_ld ((HS.nsR1 2 rfl (i := u.toNat) (by omega)).int g41.1 g41.2) sc3 rfl) rfl ?_
      refine ro_lt (r_eql rfl rfl) rfl ?_
      refine ro_lt (r_mv (v := .bool ((decide (((Nodes_36.getD u.toNat dN).1).getD i28.toNat 0 = 2)))) rfl) rfl ?_
      replace h := ite_some h; rcases h with ⟨c42, h⟩ | ⟨c42, h⟩
      rotate_left
      · refine ro_off (sb (decide_eq_false c42)) rfl rfl ?_
        refine ro_off (sb (decide_eq_false c42)) rfl rfl ?_
        refine ro_off (sb (decide_eq_false c42)) rfl rfl ?_
        refine ro_off (sb (decide_eq_false c42)) rfl rfl ?_
        refine ro_off (sb (decide_eq_false c42)) rfl rfl ?_
        refine ro_off (sb (decide_eq_false c42)) rfl rfl ?_
        refine ro_off (sb (decide_eq_false c42)) rfl rfl ?_
        refine ro_off (sb (decide_eq_false c42)) rfl rfl ?_
        refine ro_off (sb (decide_eq_false c42)) rfl rfl ?_
        refine ro_off (sb (decide_eq_false c42)) rfl rfl ?_
        refine ro_off (sb (decide_eq_false c42)) rfl rfl ?_
        refine ro_off (sb (decide_eq_false c42)) rfl rfl ?_
        refine ro_off (sb (decide_eq_false c42)) rfl rfl ?_
        refine ro_lt (r_pickf (v := .bool false) (decide_eq_false c42) rfl rfl) rfl ?_
        refine RO.nil (nx ?_)
        refine ex_if_f rfl (rfl) ?_
        refine ex_skip (blk_nx (nx ?_))
        refine ex_region ?_
        refine ro_lt (r_addw rfl rfl) rfl ?_
        refine ro_lt (r_mv (v := iv (wi (i38 + 1))) rfl) rfl ?_
        refine RO.nil ?_
        obtain rfl := Option.some.inj h
        exact lq_go ⟨⟨rfl, rfl, rfl, rfl, rfl, rfl, rfl, trivial⟩, HS⟩
      refine ro_on (sb (decide_eq_true c42)) ?_
      refine ro_lt (r_mv (v := .pointer (some ⟨g_c, 0, none⟩)) rfl) rfl ?_
      refine ro_on (sb (decide_eq_true c42)) ?_
      refine ro_lt (r_nc (HS.boxAt 0 rfl) rfl) rfl ?_
      refine ro_on (sb (decide_eq_true c42)) ?_
      refine ro_lt (r_fa (HS.boxAt 0 rfl) fd95_0 rfl) rfl ?_
      refine ro_on (sb (decide_eq_true c42)) ?_
      refine ro_lt (r_fa ((HS.boxAt 0 rfl).seg 0 2) fd27_0 rfl) rfl ?_
      refine ro_on (sb (decide_eq_true c42)) ?_
      refine ro_lt (r_ld (((HS.boxAt 0 rfl).seg 0 2).seg 0 1) sc24 rfl) rfl ?_
      refine ro_on (sb (decide_eq_true c42)) ?_
      refine ro_lt (r_mv (v := iv i38) rfl) rfl ?_
      replace h := grd_some h; obtain ⟨g43, h⟩ := h
      refine ro_on (sb (decide_eq_true c42)) ?_
      refine ro_lt (r_ian HS (k := 2) rfl sl24 g43.1 g43.2 rfl rfl) rfl ?_
      refine ro_on (sb (decide_eq_true c42)) ?_
      refine ro_lt (r_fa (HS.nsAt 2 rfl (i := i38.toNat) (by omega)) fd72_1 rfl) rfl ?_
      refine ro_on (sb (decide_eq_true c42)) ?_
      refine ro_lt (r_ld (v := (sh_c i38.toNat).2) ((HS.nsAt 2 rfl (i := i38.toNat) (by omega)).seg 1 1) sc25 rfl) rfl ?_
      refine ro_on (sb (decide_eq_true c42)) ?_
      refine ro_lt (r_mv (v := iv i28) rfl) rfl ?_
      replace h := grd_some h; obtain ⟨g44, h⟩ := h
      refine ro_on (sb (decide_eq_true c42)) ?_
      refine ro_lt (r_ia (HS.nsR2 2 rfl (i := i38.toNat) (by omega)) sl25 g44.1 g44.2 rfl rfl) rfl ?_
      refine ro_on (sb (decide_eq_true c42)) ?_
      refine ro_lt (r_ld ((HS.nsR2 2 rfl (i := i38.toNat) (by omega)).int g44.1 g44.2) sc3 rfl) rfl ?_
      refine ro_on (sb (decide_eq_true c42)) ?_
      refine ro_lt (r_eql rfl rfl) rfl ?_
      refine ro_lt (r_pickt (v := .bool ((decide (((Nodes_36.getD i38.toNat dN).2.1).getD i28.toNat 0 = 2)))) (decide_eq_true c42) rfl rfl) rfl ?_
      refine RO.nil (nx ?_)
      replace h := ite_some h; rcases h with ⟨c45, h⟩ | ⟨c45, h⟩
      rotate_left
      · refine ex_if_f rfl (decide_eq_false c45) ?_
        refine ex_skip (blk_nx (nx ?_))
        refine ex_region ?_
        refine ro_lt (r_addw rfl rfl) rfl ?_
        refine ro_lt (r_mv (v := iv (wi (i38 + 1))) rfl) rfl ?_
        refine RO.nil ?_
        obtain rfl := Option.some.inj h
        exact lq_go ⟨⟨rfl, rfl, rfl, rfl, rfl, rfl, rfl, trivial⟩, HS⟩
      refine ex_if_t rfl (decide_eq_true c45) ?_
      refine ex_region ?_
      refine ro_lt (r_mv (v := .pointer (some ⟨g_c, 0, none⟩)) rfl) rfl ?_
      refine ro_lt (r_mv (v := .pointer (some ⟨g_c, 0, none⟩)) rfl) rfl ?_
      refine ro_lt (r_mv (v := iv i38) rfl) rfl ?_
      refine ro_lt (r_mv (v := iv u) rfl) rfl ?_
      replace h := bind_some h; obtain ⟨y46, e47, h⟩ := h
      replace h := grd_some h; obtain ⟨g49, h⟩ := h
      refine ro_hy (o_cs (vs := [.pointer (some ⟨g_c, 0, none⟩), iv i38, iv u]) (c_impl_sharpener_next (HS.sel (G := _ :: _ :: _ :: FR) [0, 1, 0] 0 rfl).self e47) cf163 rfl) rfl ?_
      rintro _ w48 ⟨rfl, HS2⟩
      replace HS := (HS.sel (G := _ :: _ :: _ :: FR) [0, 1, 0] 0 rfl).from HS2
      replace h := bind_some h; obtain ⟨y52, e53, h⟩ := h
      refine ro_hy (o_cs (vs := [.pointer (some ⟨g_c, 0, none⟩), eaddr v_c_Next (y46.1.toNat * 1), iv 0]) (c_set_x (HS.sel (G := _ :: _ :: _ :: FR) [0, 1] 0 rfl).self g49.1 g49.2 e53) cf161 rfl) rfl ?_
      rintro _ w51 ⟨rfl, HS2⟩
      replace HS := (HS.sel (G := _ :: _ :: _ :: FR) [0, 1] 0 rfl).from HS2
      refine RO.nil (blk_nx (nx ?_))
      refine ex_region ?_
      refine ro_lt (r_addw rfl rfl) rfl ?_
      refine ro_lt (r_mv (v := iv (wi (i38 + 1))) rfl) rfl ?_
      refine RO.nil ?_
      obtain rfl := Option.some.inj h
      exact lq_go ⟨⟨rfl, rfl, rfl, rfl, rfl, rfl, rfl, trivial⟩, HS⟩
    rintro s' w57 ⟨hs_, HS⟩
    rw [has_put hs_]; clear hs_
    refine (blk_nx (nx ?_))
    refine ex_region ?_
    refine ro_lt (r_addw rfl rfl) rfl ?_
    refine ro_lt (r_mv (v := iv (wi (i28 + 1))) rfl) rfl ?_
    refine RO.nil ?_
    obtain rfl := Option.some.inj h
    exact lq_go ⟨⟨rfl, rfl, rfl, rfl, trivial⟩, HS⟩
  rintro s' w61 ⟨hs_, HS⟩
  rw [has_put hs_]; clear hs_
  obtain rfl := Option.some.inj h
  exact ret0 (.inl rfl) rfl ⟨rfl, (HS.sel (G := _ :: _ :: _ :: FR) [0, 1, 0] 0 rfl)⟩
theorem c_impl_sharpener_shared {w : World} {H : Hp} {FR : List Ob} {g_c : Nat} {v_c_Nodes : Value} {n_c : Nat} {sh_c : Shp} {c_Nodes : List (List Int × List Int × Int × Int)} {v_c_Next : Value} {c_Next : List Int} {c_vars : Int} {c_changed : Bool} {c_bad : Bool} {v : Int} (HS : St w H w (.bx g_c 95 [v_c_Nodes, v_c_Next, iv c_vars, .bool c_changed, .bool c_bad] :: .pr (NS 72 3 n_c v_c_Nodes sh_c c_Nodes) :: .ow (.sl 3 (.int .i64)) c_Next [v_c_Next] :: FR)) {r : List (List Int × List Int × Int × Int) × List Int × Bool × Bool} (h : F_impl_sharpener_shared n_c c_Nodes c_Next c_vars c_changed c_bad v = some r) : Calls Try.prog 136 [.pointer (some ⟨g_c, 0, none⟩), iv v].toArray w (((fun r => PS (.tuple #[]) fun w' => St w H w' (.bx g_c 95 [v_c_Nodes, v_c_Next, iv c_vars, .bool r.2.2.1, .bool r.2.2.2] :: .pr (NS 72 3 n_c v_c_Nodes sh_c r.1) :: .ow (.sl 3 (.int .i64)) r.2.1 [v_c_Next] :: FR)) : (List (List Int × List Int × Int × Int) × List Int × Bool × Bool) → Ending → World → Prop) r) := by
  unfold F_impl_sharpener_shared at h
  refine calls_ex (n := 79) Try.func136 rfl Try.ntmps136 (Nat.le_of_ble_eq_true rfl) ?_
  refine ex_seq ?_
  refine ex_region ?_
  refine ro_lt (r_as (v := iv 0) rfl) rfl ?_
  refine ro_lt (r_as (v := iv 0) rfl) rfl ?_
  refine RO.nil (nx ?_)
  refine ex_seq ?_
  refine ex_seq ?_
  refine ex_region ?_
  refine ro_lt (r_mv (v := .pointer (some ⟨g_c, 0, none⟩)) rfl) rfl ?_
  refine ro_lt (r_nc (HS.boxAt 0 rfl) rfl) rfl ?_
  refine ro_lt (r_fa (HS.boxAt 0 rfl) fd95_0 rfl) rfl ?_
  refine ro_lt (r_fa ((HS.boxAt 0 rfl).seg 0 2) fd27_0 rfl) rfl ?_
  refine ro_lt (r_ld (((HS.boxAt 0 rfl).seg 0 2).seg 0 1) sc24 rfl) rfl ?_
  have b4 := HS.nsBig 1 rfl
  refine ro_lt (r_lenn (m := 4) HS (k := 1) rfl sl24 rfl) rfl ?_
  refine ro_lt (r_mv (v := iv 0) rfl) rfl ?_
  refine RO.nil (nx ?_)
  replace h := bind_some h; obtain ⟨y52, e53, h⟩ := h
  refine ex_lbo (fun (st : Bool × Bool × (List (List Int × List Int × Int × Int)) × (List Int) × Int × Int × Int) s' w' => Has s' [(0, .pointer (some ⟨g_c, 0, none⟩)), (1, iv v), (4, iv st.2.2.2.2.1), (5, iv st.2.2.2.2.2.1), (12, v_c_Nodes), (13, iv ((n_c : Int))), (14, iv st.2.2.2.2.2.2)] ∧ St w H w' (.bx g_c 95 [v_c_Nodes, v_c_Next, iv c_vars, .bool st.1, .bool st.2.1] :: .pr (NS 72 3 n_c v_c_Nodes sh_c st.2.2.1) :: .ow (.sl 3 (.int .i64)) st.2.2.2.1 [v_c_Next] :: FR)) e53 ⟨⟨rfl, rfl, rfl, rfl, rfl, rfl, rfl, trivial⟩, HS⟩ ?_ ?_
  · rintro ⟨changed_18, bad_19, Nodes_20, Next_21, may_22, must_23, i24⟩ c' s' w25 ⟨hs_, HS⟩ h
    rw [has_put hs_]; clear hs_
    try dsimp only at HS
    replace h : F_impl_sharpener_shared_b1 n_c c_vars v changed_18 bad_19 Nodes_20 Next_21 may_22 must_23 i24 = some c' := h
    unfold F_impl_sharpener_shared_b1 at h
    refine ex_seq ?_
    refine ex_region ?_
    refine ro_lt (r_lss rfl rfl) rfl ?_
    refine RO.nil (nx ?_)
    refine ex_seq ?_
    replace h := ite_some h; rcases h with ⟨c26, h⟩ | ⟨c26, h⟩
    rotate_left
    · refine ex_if_f rfl (decide_eq_false c26) ?_
      refine ex_exit (tq_exit ?_)
      obtain rfl := Option.some.inj h
      exact lq_out ⟨⟨rfl, rfl, rfl, rfl, rfl, rfl, rfl, trivial⟩, HS⟩
    refine ex_if_t rfl (decide_eq_true c26) ?_
    refine ex_skip (nx ?_)
    refine ex_seq ?_
    refine ex_block ?_
    refine ex_seq ?_
    refine ex_region ?_
    refine ro_lt (r_mv (v := iv i24) rfl) rfl ?_
    replace h := grd_some h; obtain ⟨g27, h⟩ := h
    refine ro_lt (r_ian HS (k := 1) rfl sl24 g27.1 g27.2 rfl rfl) rfl ?_
    refine ro_lt (r_lda (cs := [(sh_c i24.toNat).1, (sh_c i24.toNat).2, iv ((Nodes_20.getD i24.toNat dN).2.2.1), iv ((Nodes_20.getD i24.toNat dN).2.2.2)]) (HS.nsAt 1 rfl (i := i24.toNat) (by omega)) ag72 rfl rfl) rfl ?_
    refine ro_hy (o_alloc HS (cs := [.slice none 0 0, .slice none 0 0, iv 0, iv 0]) ze72 rfl) rfl ?_
    rintro _ w29 ⟨g28, rfl, hb, HS⟩
    refine ro_lt (r_as (v := iv i24) rfl) rfl ?_
    refine ro_hy (o_str (off := 0) (vs := [(sh_c i24.toNat).1, (sh_c i24.toNat).2, iv ((Nodes_20.getD i24.toNat dN).2.2.1), iv ((Nodes_20.getD i24.toNat dN).2.2.2)]) (l' := [(sh_c i24.toNat).1, (sh_c i24.toNat).2, iv ((Nodes_20.getD i24.toNat dN).2.2.1), iv ((Nodes_20.getD i24.toNat dN).2.2.2)]) HS rfl rfl rfl st72 rfl rfl (pl (HS.nsR1 2 rfl (i := i24.toNat) (by omega)).pl (pl (HS.nsR2 2 rfl (i := i24.toNat) (by omega)).pl (pl rfl (pl rfl pl0)))) rfl) rfl ?_
    rintro _ w31 ⟨rfl, hk, HS⟩
    refine RO.nil (nx ?_)
    refine ex_seq ?_
    refine ex_seq ?_
    refine ex_region ?_
    refine ro_lt (r_mv (v := .pointer (some ⟨g_c, 0, none⟩)) rfl) rfl ?_
    refine ro_lt (r_mv (v := iv i24) rfl) rfl ?_
    refine ro_lt (r_mv (v := iv v) rfl) rfl ?_
    replace h := bind_some h; obtain ⟨y33, e34, h⟩ := h
    replace h := grd_some h; obtain ⟨g36, h⟩ := h
    refine ro_hy (o_cs (vs := [.pointer (some ⟨g_c, 0, none⟩), iv i24, iv v]) (c_impl_sharpener_next (HS.sel (G := _ :: _ :: _ :: _ :: FR) [1, 1, 1] 0 rfl).self e34) cf163 rfl) rfl ?_
    rintro _ w35 ⟨rfl, HS2⟩
    replace HS := (HS.sel (G := _ :: _ :: _ :: _ :: FR) [1, 1, 1] 0 rfl).from HS2
    refine ro_lt (r_nc ((HS.rd 2 rfl).int g36.1 g36.2) rfl) rfl ?_
    refine ro_lt (r_ld ((HS.rd 2 rfl).int g36.1 g36.2) sc3 rfl) rfl ?_
    refine ro_lt (r_eql rfl rfl) rfl ?_
    refine RO.nil (nx ?_)
    replace h := ite_some h; rcases h with ⟨c38, h⟩ | ⟨c38, h⟩
    · refine ex_if_t rfl (decide_eq_true c38) ?_
      refine ex_exit (tq_exit (blk_exit (nx ?_)))
      refine ex_region ?_
      refine ro_lt (r_addw rfl rfl) rfl ?_
      refine ro_lt (r_mv (v := iv (wi (i24 + 1))) rfl) rfl ?_
      refine RO.nil ?_
      obtain rfl := Option.some.inj h
      exact lq_go ⟨⟨rfl, rfl, rfl, rfl, rfl, rfl, rfl, trivial⟩, (HS.sel (G := _ :: _ :: _ :: FR) [0, 0, 0] 1 rfl)⟩
    refine ex_if_f rfl (decide_eq_false c38) ?_
    refine ex_skip (nx ?_)
    refine ex_seq ?_
    refine ex_region ?_
    refine ro_lt (r_mv (v := iv may_22) rfl) rfl ?_
    refine ro_lt (r_addw rfl rfl) rfl ?_
    refine ro_lt (r_as (v := iv (wi (may_22 + 1))) rfl) rfl ?_
    refine RO.nil (nx ?_)
    refine ex_seq ?_
    refine ex_seq ?_
    refine ex_region ?_
    refine ro_lt (r_fa (HS.boxAt 3 rfl) fd72_3 rfl) rfl ?_
    refine ro_lt (r_ld ((HS.boxAt 3 rfl).seg 3 1) sc3 rfl) rfl ?_
    refine ro_lt (r_eql rfl rfl) rfl ?_
    refine RO.nil (nx ?_)
    replace h := ite_some h; rcases h with ⟨c39, h⟩ | ⟨c39, h⟩
    rotate_left
    · refine ex_if_f rfl (decide_eq_false c39) ?_
      refine ex_skip (nx ?_)
      refine ex_seq ?_
      refine ex_region ?_
      refine ro_lt (r_mv (v := .pointer (some ⟨g_c, 0, none⟩)) rfl) rfl ?_
      refine ro_lt (r_mv (v := iv i24) rfl) rfl ?_
      refine ro_lt (r_mv (v := iv v) rfl) rfl ?_
      replace h := bind_some h; obtain ⟨y46, e47, h⟩ := h
      replace h := grd_some h; obtain ⟨g49, h⟩ := h
      refine ro_hy (o_cs (vs := [.pointer (some ⟨g_c, 0, none⟩), iv i24, iv v]) (c_impl_sharpener_next HS.self e47) cf163 rfl) rfl ?_
      rintro _ w48 ⟨rfl, HS2⟩
      replace HS := HS.from HS2
      refine ro_lt (r_nc ((HS.rd 2 rfl).int g49.1 g49.2) rfl) rfl ?_
      refine ro_lt (r_ld ((HS.rd 2 rfl).int g49.1 g49.2) sc3 rfl) rfl ?_
      refine ro_lt (r_eql rfl rfl) rfl ?_
      refine RO.nil (nx ?_)
      replace h := ite_some h; rcases h with ⟨c51, h⟩ | ⟨c51, h⟩
      rotate_left
      · refine ex_if_f rfl (decide_eq_false c51) ?_
        refine ex_skip (blk_nx (nx ?_))
        refine ex_region ?_
        refine ro_lt (r_addw rfl rfl) rfl ?_
        refine ro_lt (r_mv (v := iv (wi (i24 + 1))) rfl) rfl ?_
        refine RO.nil ?_
        obtain rfl := Option.some.inj h
        exact lq_go ⟨⟨rfl, rfl, rfl, rfl, rfl, rfl, rfl, trivial⟩, (HS.sel (G := _ :: _ :: _ :: FR) [0, 0, 0] 1 rfl)⟩
      refine ex_if_t rfl (decide_eq_true c51) ?_
      refine ex_region ?_
      refine ro_lt (r_mv (v := iv must_23) rfl) rfl ?_
      refine ro_lt (r_addw rfl rfl) rfl ?_
      refine ro_lt (r_as (v := iv (wi (must_23 + 1))) rfl) rfl ?_
      refine RO.nil (blk_nx (nx ?_))
      refine ex_region ?_
      refine ro_lt (r_addw rfl rfl) rfl ?_
      refine ro_lt (r_mv (v := iv (wi (i24 + 1))) rfl) rfl ?_
      refine RO.nil ?_
      obtain rfl := Option.some.inj h
      exact lq_go ⟨⟨rfl, rfl, rfl, rfl, rfl, rfl, rfl, trivial⟩, (HS.sel (G := _ :: _ :: _ :: FR) [0, 0, 0] 1 rfl)⟩
    refine ex_if_t rfl (decide_eq_true c39) ?_
    refine ex_region ?_
    refine ro_lt (r_mv (v := iv (wi (may_22 + 1))) rfl) rfl ?_
    refine ro_lt (r_addw rfl rfl) rfl ?_
    refine ro_lt (r_as (v := iv (wi ((wi (may_22 + 1)) + 1))) rfl) rfl ?_
    refine RO.nil (nx ?_)
    refine ex_seq ?_
    refine ex_region ?_
    refine ro_lt (r_mv (v := .pointer (some ⟨g_c, 0, none⟩)) rfl) rfl ?_
    refine ro_lt (r_mv (v := iv i24) rfl) rfl ?_
    refine ro_lt (r_mv (v := iv v) rfl) rfl ?_
    replace h := bind_some h; obtain ⟨y40, e41, h⟩ := h
    replace h := grd_some h; obtain ⟨g43, h⟩ := h
    refine ro_hy (o_cs (vs := [.pointer (some ⟨g_c, 0, none⟩), iv i24, iv v]) (c_impl_sharpener_next HS.self e41) cf163 rfl) rfl ?_
    rintro _ w42 ⟨rfl, HS2⟩
    replace HS := HS.from HS2
    refine ro_lt (r_nc ((HS.rd 2 rfl).int g43.1 g43.2) rfl) rfl ?_
    refine ro_lt (r_ld ((HS.rd 2 rfl).int g43.1 g43.2) sc3 rfl) rfl ?_
    refine ro_lt (r_eql rfl rfl) rfl ?_
    refine RO.nil (nx ?_)
    replace h := ite_some h; rcases h with ⟨c45, h⟩ | ⟨c45, h⟩
    rotate_left
    · refine ex_if_f rfl (decide_eq_false c45) ?_
      refine ex_skip (blk_nx (nx ?_))
      refine ex_region ?_
      refine ro_lt (r_addw rfl rfl) rfl ?_
      refine ro_lt (r_mv (v := iv (wi (i24 + 1))) rfl) rfl ?_
      refine RO.nil ?_
      obtain rfl := Option.some.inj h
      exact lq_go ⟨⟨rfl, rfl, rfl, rfl, rfl, rfl, rfl, trivial⟩, (HS.sel (G := _ :: _ :: _ :: FR) [0, 0, 0] 1 rfl)⟩
    refine ex_if_t rfl (decide_eq_true c45) ?_
    refine ex_region ?_
    refine ro_lt (r_mv (v := iv must_23) rfl) rfl ?_
    refine ro_lt (r_addw rfl rfl) rfl ?_
    refine ro_lt (r_as (v := iv (wi (must_23 + 1))) rfl) rfl ?_
    refine RO.nil (blk_nx (nx ?_))
    refine ex_region ?_
    refine ro_lt (r_addw rfl rfl) rfl ?_
    refine ro_lt (r_mv (v := iv (wi (i24 + 1))) rfl) rfl ?_
    refine RO.nil ?_
    obtain rfl := Option.some.inj h
    exact lq_go ⟨⟨rfl, rfl, rfl, rfl, rfl, rfl, rfl, trivial⟩, (HS.sel (G := _ :: _ :: _ :: FR) [0, 0, 0] 1 rfl)⟩
  rintro s' w54 ⟨hs_, HS⟩
  rw [has_put hs_]; clear hs_
  refine (nx ?_)
  refine ex_seq ?_
  refine ex_seq ?_
  refine ex_region ?_
  refine ro_lt (r_mv (v := iv y52.2.2.2.2.1) rfl) rfl ?_
  refine ro_lt (r_lss rfl rfl) rfl ?_
  refine RO.nil (nx ?_)
  replace h := ite_some h; rcases h with ⟨c56, h⟩ | ⟨c56, h⟩
  rotate_left
  · refine ex_if_f rfl (decide_eq_false c56) ?_
    refine ex_skip (nx ?_)
    refine ex_seq ?_
    refine ex_region ?_
    refine ro_lt (r_mv (v := .pointer (some ⟨g_c, 0, none⟩)) rfl) rfl ?_
    refine ro_lt (r_nc (HS.boxAt 0 rfl) rfl) rfl ?_
    refine ro_lt (r_fa (HS.boxAt 0 rfl) fd95_0 rfl) rfl ?_
    refine ro_lt (r_fa ((HS.boxAt 0 rfl).seg 0 2) fd27_0 rfl) rfl ?_
    refine ro_lt (r_ld (((HS.boxAt 0 rfl).seg 0 2).seg 0 1) sc24 rfl) rfl ?_
    refine ro_lt (r_mv (v := iv v) rfl) rfl ?_
    replace h := grd_some h; obtain ⟨g68, h⟩ := h
    refine ro_lt (r_ian HS (k := 1) rfl sl24 g68.1 g68.2 rfl rfl) rfl ?_
    refine ro_lt (r_fa (HS.nsAt 1 rfl (i := v.toNat) (by omega)) fd72_3 rfl) rfl ?_
    refine ro_lt (r_ld (v := iv ((y52.2.2.1.getD v.toNat dN).2.2.2)) ((HS.nsAt 1 rfl (i := v.toNat) (by omega)).seg 3 1) sc3 rfl) rfl ?_
    refine ro_lt (r_eql rfl rfl) rfl ?_
    refine ro_lt (r_mv (v := .bool ((decide ((y52.2.2.1.getD v.toNat dN).2.2.2 = 0)))) rfl) rfl ?_
    replace h := ite_some h; rcases h with ⟨c69, h⟩ | ⟨c69, h⟩
    rotate_left
    · refine ro_off (sb (decide_eq_false c69)) rfl rfl ?_
      refine ro_off (sb (decide_eq_false c69)) rfl rfl ?_
      refine ro_lt (r_pickf (v := .bool false) (decide_eq_false c69) rfl rfl) rfl ?_
      refine RO.nil (nx ?_)
      refine ex_if_f rfl (rfl) ?_
      refine ex_skip ?_
      obtain rfl := Option.some.inj h
      exact ret0 (.inl rfl) rfl ⟨rfl, HS⟩
    refine ro_on (sb (decide_eq_true c69)) ?_
    refine ro_lt (r_mv (v := iv y52.2.2.2.2.2.1) rfl) rfl ?_
    refine ro_on (sb (decide_eq_true c69)) ?_
    refine ro_lt (r_geq rfl rfl) rfl ?_
    refine ro_lt (r_pickt (v := .bool ((decide (y52.2.2.2.2.2.1 ≥ 2)))) (decide_eq_true c69) rfl rfl) rfl ?_
    refine RO.nil (nx ?_)
    replace h := ite_some h; rcases h with ⟨c70, h⟩ | ⟨c70, h⟩
    rotate_left
    · refine ex_if_f rfl (decide_eq_false c70) ?_
      refine ex_skip ?_
      obtain rfl := Option.some.inj h
      exact ret0 (.inl rfl) rfl ⟨rfl, HS⟩
    refine ex_if_t rfl (decide_eq_true c70) ?_
    refine ex_region ?_
    refine ro_lt (r_mv (v := .pointer (some ⟨g_c, 0, none⟩)) rfl) rfl ?_
    refine ro_lt (r_mv (v := .pointer (some ⟨g_c, 0, none⟩)) rfl) rfl ?_
    refine ro_lt (r_nc (HS.boxAt 0 rfl) rfl) rfl ?_
    refine ro_lt (r_fa (HS.boxAt 0 rfl) fd95_0 rfl) rfl ?_
    refine ro_lt (r_fa ((HS.boxAt 0 rfl).seg 0 2) fd27_0 rfl) rfl ?_
    refine ro_lt (r_ld (((HS.boxAt 0 rfl).seg 0 2).seg 0 1) sc24 rfl) rfl ?_
    refine ro_lt (r_mv (v := iv v) rfl) rfl ?_
    refine ro_lt (r_ian HS (k := 1) rfl sl24 g68.1 g68.2 rfl rfl) rfl ?_
    refine ro_lt (r_fa (HS.nsAt 1 rfl (i := v.toNat) (by omega)) fd72_2 rfl) rfl ?_
    replace h := bind_some h; obtain ⟨y72, e73, h⟩ := h
    refine ro_hy (o_cs (vs := [.pointer (some ⟨g_c, 0, none⟩), padd (eaddr v_c_Nodes (v.toNat * 4)) 2, iv 2]) (c_set_f2 HS.self g68.1 g68.2 e73) cf161 rfl) rfl ?_
    rintro _ w71 ⟨rfl, HS2⟩
    replace HS := HS.from HS2
    refine RO.nil ?_
    obtain rfl := Option.some.inj h
    exact ret0 (.inl rfl) rfl ⟨rfl, HS⟩
  refine ex_if_t rfl (decide_eq_true c56) ?_
  refine ex_region ?_
  refine ro_lt (r_mv (v := .pointer (some ⟨g_c, 0, none⟩)) rfl) rfl ?_
  refine ro_lt (r_mv (v := .pointer (some ⟨g_c, 0, none⟩)) rfl) rfl ?_
  refine ro_lt (r_nc (HS.boxAt 0 rfl) rfl) rfl ?_
  refine ro_lt (r_fa (HS.boxAt 0 rfl) fd95_0 rfl) rfl ?_
  refine ro_lt (r_fa ((HS.boxAt 0 rfl).seg 0 2) fd27_0 rfl) rfl ?_
  refine ro_lt (r_ld (((HS.boxAt 0 rfl).seg 0 2).seg 0 1) sc24 rfl) rfl ?_
  refine ro_lt (r_mv (v := iv v) rfl) rfl ?_
  replace h := grd_some h; obtain ⟨g57, h⟩ := h
  refine ro_lt (r_ian HS (k := 1) rfl sl24 g57.1 g57.2 rfl rfl) rfl ?_
  refine ro_lt (r_fa (HS.nsAt 1 rfl (i := v.toNat) (by omega)) fd72_2 rfl) rfl ?_
  replace h := bind_some h; obtain ⟨y59, e60, h⟩ := h
  refine ro_hy (o_cs (vs := [.pointer (some ⟨g_c, 0, none⟩), padd (eaddr v_c_Nodes (v.toNat * 4)) 2, iv 0]) (c_set_f2 HS.self g57.1 g57.2 e60) cf161 rfl) rfl ?_
  rintro _ w58 ⟨rfl, HS2⟩
  replace HS := HS.from HS2
  refine RO.nil (nx ?_)
  refine ex_seq ?_
  refine ex_region ?_
  refine ro_lt (r_mv (v := .pointer (some ⟨g_c, 0, none⟩)) rfl) rfl ?_
  refine ro_lt (r_nc (HS.boxAt 0 rfl) rfl) rfl ?_
  refine ro_lt (r_fa (HS.boxAt 0 rfl) fd95_0 rfl) rfl ?_
  refine ro_lt (r_fa ((HS.boxAt 0 rfl).seg 0 2) fd27_0 rfl) rfl ?_
  refine ro_lt (r_ld (((HS.boxAt 0 rfl).seg 0 2).seg 0 1) sc24 rfl) rfl ?_
  refine ro_lt (r_mv (v := iv v) rfl) rfl ?_
  refine ro_lt (r_ian HS (k := 1) rfl sl24 g57.1 g57.2 rfl rfl) rfl ?_
  refine ro_lt (r_fa (HS.nsAt 1 rfl (i := v.toNat) (by omega)) fd72_3 rfl) rfl ?_
  refine ro_lt (r_ld (v := iv (((y52.2.2.1.set v.toNat ((y52.2.2.1.getD v.toNat dN).1, (y52.2.2.1.getD v.toNat dN).2.1, y59.1, (y52.2.2.1.getD v.toNat dN).2.2.2)).getD v.toNat dN).2.2.2)) ((HS.nsAt 1 rfl (i := v.toNat) (by omega)).seg 3 1) sc3 rfl) rfl ?_
  refine ro_lt (r_eql rfl rfl) rfl ?_
  refine ro_lt (r_mv (v := .bool ((decide (((y52.2.2.1.set v.toNat ((y52.2.2.1.getD v.toNat dN).1, (y52.2.2.1.getD v.toNat dN).2.1, y59.1, (y52.2.2.1.getD v.toNat dN).2.2.2)).getD v.toNat dN).2.2.2 = 0)))) rfl) rfl ?_
  replace h := ite_some h; rcases h with ⟨c62, h⟩ | ⟨c62, h⟩
  rotate_left
  · refine ro_off (sb (decide_eq_false c62)) rfl rfl ?_
    refine ro_off (sb (decide_eq_false c62)) rfl rfl ?_
    refine ro_lt (r_pickf (v := .bool false) (decide_eq_false c62) rfl rfl) rfl ?_
    refine RO.nil (nx ?_)
    refine ex_if_f rfl (rfl) ?_
    refine ex_skip ?_
    obtain rfl := Option.some.inj h
    exact ret0 (.inl rfl) rfl ⟨rfl, HS⟩
  refine ro_on (sb (decide_eq_true c62)) ?_
  refine ro_lt (r_mv (v := iv y52.2.2.2.2.2.1) rfl) rfl ?_
  refine ro_on (sb (decide_eq_true c62)) ?_
  refine ro_lt (r_geq rfl rfl) rfl ?_
  refine ro_lt (r_pickt (v := .bool ((decide (y52.2.2.2.2.2.1 ≥ 2)))) (decide_eq_true c62) rfl rfl) rfl ?_
  refine RO.nil (nx ?_)
  replace h := ite_some h; rcases h with ⟨c63, h⟩ | ⟨c63, h⟩
  rotate_left
  · refine ex_if_f rfl (decide_eq_false c63) ?_
    refine ex_skip ?_
    obtain rfl := Option.some.inj h
    exact ret0 (.inl rfl) rfl ⟨rfl, HS⟩
  refine ex_if_t rfl (decide_eq_true c63) ?_
  refine ex_region ?_
  refine ro_lt (r_mv (v := .pointer (some ⟨g_c, 0, none⟩)) rfl) rfl ?_
  refine ro_lt (r_mv (v := .pointer (some ⟨g_c, 0, none⟩)) rfl) rfl ?_
  refine ro_lt (r_nc (HS.boxAt 0 rfl) rfl) rfl ?_
  refine ro_lt (r_fa (HS.boxAt 0 rfl) fd95_0 rfl) rfl ?_
  refine ro_lt (r_fa ((HS.boxAt 0 rfl).seg 0 2) fd27_0 rfl) rfl ?_
  refine ro_lt (r_ld (((HS.boxAt 0 rfl).seg 0 2).seg 0 1) sc24 rfl) rfl ?_
  refine ro_lt (r_mv (v := iv v) rfl) rfl ?_
  refine ro_lt (r_ian HS (k := 1) rfl sl24 g57.1 g57.2 rfl rfl) rfl ?_
  refine ro_lt (r_fa (HS.nsAt 1 rfl (i := v.toNat) (by omega)) fd72_2 rfl) rfl ?_
  replace h := bind_some h; obtain ⟨y65, e66, h⟩ := h
  refine ro_hy (o_cs (vs := [.pointer (some ⟨g_c, 0, none⟩), padd (eaddr v_c_Nodes (v.toNat * 4)) 2, iv 2]) (c_set_f2 HS.self g57.1 g57.2 e66) cf161 rfl) rfl ?_
  rintro _ w64 ⟨rfl, HS2⟩
  replace HS := HS.from HS2
  refine RO.nil ?_
  obtain rfl := Option.some.inj h
  exact ret0 (.inl rfl) rfl ⟨rfl, HS⟩
theorem c_impl_sharpener_met {w : World} {H : Hp} {FR : List Ob} {g_c : Nat} {v_c_Nodes : Value} {n_c : Nat} {sh_c : Shp} {c_Nodes : List (List Int × List Int × Int × Int)} {v_c_Next : Value} {c_Next : List Int} {c_vars : Int} {c_changed : Bool} {c_bad : Bool} {v : Int} (HS : St w H w (.bx g_c 95 [v_c_Nodes, v_c_Next, iv c_vars, .bool c_changed, .bool c_bad] :: .pr (NS 72 3 n_c v_c_Nodes sh_c c_Nodes) :: .ow (.sl 3 (.int .i64)) c_Next [v_c_Next] :: FR)) {r : List (List Int × List Int × Int × Int) × List Int × Bool × Bool} (h : F_impl_sharpener_met n_c c_Nodes c_Next c_vars c_changed c_bad v = some r) : Calls Try.prog 137 [.pointer (some ⟨g_c, 0, none⟩), iv v].toArray w (((fun r => PS (.tuple #[]) fun w' => St w H w' (.bx g_c 95 [v_c_Nodes, v_c_Next, iv c_vars, .bool r.2.2.1, .bool r.2.2.2] :: .pr (NS 72 3 n_c v_c_Nodes sh_c r.1) :: .ow (.sl 3 (.int .i64)) r.2.1 [v_c_Next] :: FR)) : (List (List Int × List Int × Int × Int) × List Int × Bool × Bool) → Ending → World → Prop) r) := by
  unfold F_impl_sharpener_met at h
  refine calls_ex (n := 26) Try.func137 rfl Try.ntmps137 (Nat.le_of_ble_eq_true rfl) ?_
  refine ex_seq ?_
  refine ex_seq ?_
  refine ex_region ?_
  refine ro_lt (r_mv (v := .pointer (some ⟨g_c, 0, none⟩)) rfl) rfl ?_
  refine ro_lt (r_nc (HS.boxAt 0 rfl) rfl) rfl ?_
  refine ro_lt (r_fa (HS.boxAt 0 rfl) fd95_0 rfl) rfl ?_
  refine ro_lt (r_fa ((HS.boxAt 0 rfl).seg 0 2) fd27_0 rfl) rfl ?_
  refine ro_lt (r_ld (((HS.boxAt 0 rfl).seg 0 2).seg 0 1) sc24 rfl) rfl ?_
  refine ro_lt (r_mv (v := iv v) rfl) rfl ?_
  replace h := grd_some h; obtain ⟨g4, h⟩ := h
  refine ro_lt (r_ian HS (k := 1) rfl sl24 g4.1 g4.2 rfl rfl) rfl ?_
  refine ro_lt (r_fa (HS.nsAt 1 rfl (i := v.toNat) (by omega)) fd72_1 rfl) rfl ?_
  refine ro_lt (r_ld (v := (sh_c v.toNat).2) ((HS.nsAt 1 rfl (i := v.toNat) (by omega)).seg 1 1) sc25 rfl) rfl ?_
  have b5 := (HS.nsR2 1 rfl (i := v.toNat) (by omega)).big
  refine ro_lt (r_len (n := 1) (HS.nsR2 1 rfl (i := v.toNat) (by omega)) sl25 rfl) rfl ?_
  refine ro_lt (r_mv (v := iv 0) rfl) rfl ?_
  refine RO.nil (nx ?_)
  replace h := bind_some h; obtain ⟨y16, e17, h⟩ := h
  refine ex_lbr (fun (st : Int) s' w' => Has s' [(0, .pointer (some ⟨g_c, 0, none⟩)), (14, (sh_c v.toNat).2), (15, iv ((((c_Nodes.getD v.toNat dN).2.1).length : Int))), (16, iv st)] ∧ St w H w' (.bx g_c 95 [v_c_Nodes, v_c_Next, iv c_vars, .bool c_changed, .bool c_bad] :: .pr (NS 72 3 n_c v_c_Nodes sh_c c_Nodes) :: .ow (.sl 3 (.int .i64)) c_Next [v_c_Next] :: FR)) (fun r s' w' => FQ Try.prog Try.f137 26 (((fun r => PS (.tuple #[]) fun w' => St w H w' (.bx g_c 95 [v_c_Nodes, v_c_Next, iv c_vars, .bool r.2.2.1, .bool r.2.2.2] :: .pr (NS 72 3 n_c v_c_Nodes sh_c r.1) :: .ow (.sl 3 (.int .i64)) r.2.1 [v_c_Next] :: FR)) : (List (List Int × List Int × Int × Int) × List Int × Bool × Bool) → Ending → World → Prop) r) .ret s' w') e17 ⟨⟨rfl, rfl, rfl, rfl, trivial⟩, HS⟩ ?_ ?_
  · rintro i11 c' s' w12 ⟨hs_, HS⟩ h
    rw [has_put hs_]; clear hs_
    replace h : F_impl_sharpener_met_b1 c_Nodes v c_Next c_changed c_bad i11 = some c' := h
    unfold F_impl_sharpener_met_b1 at h
    refine ex_seq ?_
    refine ex_region ?_
    refine ro_lt (r_lss rfl rfl) rfl ?_
    refine RO.nil (nx ?_)
    refine ex_seq ?_
    replace h := ite_some h; rcases h with ⟨c13, h⟩ | ⟨c13, h⟩
    rotate_left
    · refine ex_if_f rfl (decide_eq_false c13) ?_
      refine ex_exit (tq_exit ?_)
      obtain rfl := Option.some.inj h
      exact lq_out ⟨⟨rfl, rfl, rfl, rfl, trivial⟩, HS⟩
    refine ex_if_t rfl (decide_eq_true c13) ?_
    refine ex_skip (nx ?_)
    refine ex_seq ?_
    refine ex_block ?_
    refine ex_seq ?_
    refine ex_region ?_
    replace h := grd_some h; obtain ⟨g14, h⟩ := h
    refine ro_lt (r_ia (HS.nsR2 1 rfl (i := v.toNat) (by omega)) sl25 g14.1 g14.2 rfl rfl) rfl ?_
    refine ro_lt (r_ld ((HS.nsR2 1 rfl (i := v.toNat) (by omega)).int g14.1 g14.2) sc3 rfl) rfl ?_
    refine ro_lt (r_as (v := iv (((c_Nodes.getD v.toNat dN).2.1).getD i11.toNat 0)) rfl) rfl ?_
    refine RO.nil (nx ?_)
    refine ex_seq ?_
    refine ex_region ?_
    refine ro_lt (r_mv (v := iv (((c_Nodes.getD v.toNat dN).2.1).getD i11.toNat 0)) rfl) rfl ?_
    refine ro_lt (r_neq rfl rfl) rfl ?_
    refine RO.nil (nx ?_)
    replace h := ite_some h; rcases h with ⟨c15, h⟩ | ⟨c15, h⟩
    rotate_left
    · refine ex_if_t rfl (congrArg (!·) (decide_eq_false c15)) ?_
      obtain rfl := Option.some.inj h
      refine ex_ret (blk_ret (tq_ret (lq_ret ?_)))
      exact ret0 (.inr rfl) rfl ⟨rfl, HS⟩
    refine ex_if_f rfl (congrArg (!·) (decide_eq_true c15)) ?_
    refine ex_skip (blk_nx (nx ?_))
    refine ex_region ?_
    refine ro_lt (r_addw rfl rfl) rfl ?_
    refine ro_lt (r_mv (v := iv (wi (i11 + 1))) rfl) rfl ?_
    refine RO.nil ?_
    obtain rfl := Option.some.inj h
    exact lq_go ⟨⟨rfl, rfl, rfl, rfl, trivial⟩, HS⟩
  rcases y16 with r22 | y16
  · intro s' w' hR
    obtain rfl := Option.some.inj h
    exact (tq_ret hR)
  rintro s' w18 ⟨hs_, HS⟩
  rw [has_put hs_]; clear hs_
  refine (nx ?_)
  refine ex_region ?_
  refine ro_lt (r_mv (v := .pointer (some ⟨g_c, 0, none⟩)) rfl) rfl ?_
  refine ro_lt (r_nc (HS.boxAt 0 rfl) rfl) rfl ?_
  refine ro_lt (r_fa (HS.boxAt 0 rfl) fd95_3 rfl) rfl ?_
  refine ro_hy (o_str (off := 4) (vs := [.bool true]) (l' := [v_c_Nodes, v_c_Next, iv c_vars, .bool c_changed, .bool true]) HS rfl rfl rfl st4 rfl rfl (pl rfl pl0) rfl) rfl ?_
  rintro _ w20 ⟨rfl, hk, HS⟩
  refine RO.nil ?_
  obtain rfl := Option.some.inj h
  exact ret0 (.inl rfl) rfl ⟨rfl, HS⟩
theorem c_impl_sharpener_linked {w : World} {H : Hp} {FR : List Ob} {g_c : Nat} {v_c_Nodes : Value} {n_c : Nat} {sh_c : Shp} {c_Nodes : List (List Int × List Int × Int × Int)} {v_c_Next : Value} {c_Next : List Int} {c_vars : Int} {c_changed : Bool} {c_bad : Bool} {u : Int} {v : Int} (HS : St w H w (.bx g_c 95 [v_c_Nodes, v_c_Next, iv c_vars, .bool c_changed, .bool c_bad] :: .pr (NS 72 3 n_c v_c_Nodes sh_c c_Nodes) :: .ow (.sl 3 (.int .i64)) c_Next [v_c_Next] :: FR)) {r : List (List Int × List Int × Int × Int) × List Int × Bool × Bool} (h : F_impl_sharpener_linked n_c c_Nodes c_Next c_vars c_changed c_bad u v = some r) : Calls Try.prog 138 [.pointer (some ⟨g_c, 0, none⟩), iv u, iv v].toArray w (((fun r => PS (.tuple #[]) fun w' => St w H w' (.bx g_c 95 [v_c_Nodes, v_c_Next, iv c_vars, .bool r.2.2.1, .bool r.2.2.2] :: .pr (NS 72 3 n_c v_c_Nodes sh_c r.1) :: .ow (.sl 3 (.int .i64)) r.2.1 [v_c_Next] :: FR)) : (List (List Int × List Int × Int × Int) × List Int × Bool × Bool) → Ending → World → Prop) r) := by
  unfold F_impl_sharpener_linked at h
  refine calls_ex (n := 69) Try.func138 rfl Try.ntmps138 (Nat.le_of_ble_eq_true rfl) ?_
  refine ex_seq ?_
  refine ex_seq ?_
  refine ex_region ?_
  refine ro_lt (r_mv (v := .pointer (some ⟨g_c, 0, none⟩)) rfl) rfl ?_
  refine ro_lt (r_mv (v := iv u) rfl) rfl ?_
  refine ro_lt (r_mv (v := iv v) rfl) rfl ?_
  replace h := bind_some h; obtain ⟨y4, e5, h⟩ := h
  replace h := grd_some h; obtain ⟨g7, h⟩ := h
  refine ro_hy (o_cs (vs := [.pointer (some ⟨g_c, 0, none⟩), iv u, iv v]) (c_impl_sharpener_next HS.self e5) cf163 rfl) rfl ?_
  rintro _ w6 ⟨rfl, HS2⟩
  replace HS := HS.from HS2
  refine ro_lt (r_nc ((HS.rd 2 rfl).int g7.1 g7.2) rfl) rfl ?_
  refine ro_lt (r_ld ((HS.rd 2 rfl).int g7.1 g7.2) sc3 rfl) rfl ?_
  refine ro_lt (r_neq rfl rfl) rfl ?_
  refine RO.nil (nx ?_)
  replace h := ite_some h; rcases h with ⟨c9, h⟩ | ⟨c9, h⟩
  rotate_left
  · refine ex_if_t rfl (congrArg (!·) (decide_eq_false c9)) ?_
    obtain rfl := Option.some.inj h
    refine ex_ret (tq_ret ?_)
    exact ret0 (.inr rfl) rfl ⟨rfl, HS⟩
  refine ex_if_f rfl (congrArg (!·) (decide_eq_true c9)) ?_
  refine ex_skip (nx ?_)
  refine ex_seq ?_
  refine ex_region ?_
  refine ro_lt (r_mv (v := .pointer (some ⟨g_c, 0, none⟩)) rfl) rfl ?_
  refine ro_lt (r_mv (v := iv v) rfl) rfl ?_
  replace h := bind_some h; obtain ⟨y10, e11, h⟩ := h
  refine ro_hy (o_cs (vs := [.pointer (some ⟨g_c, 0, none⟩), iv v]) (c_impl_sharpener_one HS.self e11) cf162 rfl) rfl ?_
  rintro _ w12 ⟨rfl, HS2⟩
  replace HS := HS.from HS2
  refine RO.nil (nx ?_)
  refine ex_seq ?_
  refine ex_seq ?_
  refine ex_region ?_
  refine ro_lt (r_mv (v := .pointer (some ⟨g_c, 0, none⟩)) rfl) rfl ?_
  refine ro_lt (r_nc (HS.boxAt 0 rfl) rfl) rfl ?_
  refine ro_lt (r_fa (HS.boxAt 0 rfl) fd95_0 rfl) rfl ?_
  refine ro_lt (r_fa ((HS.boxAt 0 rfl).seg 0 2) fd27_0 rfl) rfl ?_
  refine ro_lt (r_ld (((HS.boxAt 0 rfl).seg 0 2).seg 0 1) sc24 rfl) rfl ?_
  have b14 := HS.nsBig 1 rfl
  refine ro_lt (r_lenn (m := 4) HS (k := 1) rfl sl24 rfl) rfl ?_
  refine ro_lt (r_mv (v := iv 0) rfl) rfl ?_
  refine RO.nil (nx ?_)
  replace h := bind_some h; obtain ⟨y41, e42, h⟩ := h
  refine ex_lbo (fun (st : Bool × Bool × (List (List Int × List Int × Int × Int)) × (List Int) × Int) s' w' => Has s' [(0, .pointer (some ⟨g_c, 0, none⟩)), (1, iv u), (2, iv v), (23, iv ((n_c : Int))), (24, iv st.2.2.2.2)] ∧ St w H w' (.bx g_c 95 [v_c_Nodes, v_c_Next, iv c_vars, .bool st.1, .bool st.2.1] :: .pr (NS 72 3 n_c v_c_Nodes sh_c st.2.2.1) :: .ow (.sl 3 (.int .i64)) st.2.2.2.1 [v_c_Next] :: FR)) e42 ⟨⟨rfl, rfl, rfl, rfl, rfl, trivial⟩, HS⟩ ?_ ?_
  · rintro ⟨changed_24, bad_25, Nodes_26, Next_27, i28⟩ c' s' w29 ⟨hs_, HS⟩ h
    rw [has_put hs_]; clear hs_
    try dsimp only at HS
    replace h : F_impl_sharpener_linked_b1 n_c v c_vars u changed_24 bad_25 Nodes_26 Next_27 i28 = some c' := h
    unfold F_impl_sharpener_linked_b1 at h
    refine ex_seq ?_
    refine ex_region ?_
    refine ro_lt (r_lss rfl rfl) rfl ?_
    refine RO.nil (nx ?_)
    refine ex_seq ?_
    replace h := ite_some h; rcases h with ⟨c30, h⟩ | ⟨c30, h⟩
    rotate_left
    · refine ex_if_f rfl (decide_eq_false c30) ?_
      refine ex_exit (tq_exit ?_)
      obtain rfl := Option.some.inj h
      exact lq_out ⟨⟨rfl, rfl, rfl, rfl, rfl, trivial⟩, HS⟩
    refine ex_if_t rfl (decide_eq_true c30) ?_
    refine ex_skip (nx ?_)
    refine ex_seq ?_
    refine ex_block ?_
    refine ex_seq ?_
    refine ex_region ?_
    refine ro_lt (r_mv (v := iv i28) rfl) rfl ?_
    refine ro_lt (r_as (v := iv i28) rfl) rfl ?_
    refine RO.nil (nx ?_)
    refine ex_seq ?_
    refine ex_region ?_
    refine ro_lt (r_mv (v := iv i28) rfl) rfl ?_
    refine ro_lt (r_mv (v := iv v) rfl) rfl ?_
    refine ro_lt (r_neq rfl rfl) rfl ?_
    refine RO.nil (nx ?_)
    replace h := ite_some h; rcases h with ⟨c31, h⟩ | ⟨c31, h⟩
    · refine ex_if_f rfl (congrArg (!·) (decide_eq_true c31)) ?_
      refine ex_skip (blk_nx (nx ?_))
      refine ex_region ?_
      refine ro_lt (r_addw rfl rfl) rfl ?_
      refine ro_lt (r_mv (v := iv (wi (i28 + 1))) rfl) rfl ?_
      refine RO.nil ?_
      obtain rfl := Option.some.inj h
      exact lq_go ⟨⟨rfl, rfl, rfl, rfl, rfl, trivial⟩, HS⟩
    refine ex_if_t rfl (congrArg (!·) (decide_eq_false c31)) ?_
    refine ex_region ?_
    refine ro_lt (r_mv (v := .pointer (some ⟨g_c, 0, none⟩)) rfl) rfl ?_
    refine ro_lt (r_mv (v := .pointer (some ⟨g_c, 0, none⟩)) rfl) rfl ?_
    refine ro_lt (r_mv (v := iv u) rfl) rfl ?_
    refine ro_lt (r_mv (v := iv i28) rfl) rfl ?_
    replace h := bind_some h; obtain ⟨y32, e33, h⟩ := h
    replace h := grd_some h; obtain ⟨g35, h⟩ := h
    refine ro_hy (o_cs (vs := [.pointer (some ⟨g_c, 0, none⟩), iv u, iv i28]) (c_impl_sharpener_next HS.self e33) cf163 rfl) rfl ?_
    rintro _ w34 ⟨rfl, HS2⟩
    replace HS := HS.from HS2
    replace h := bind_some h; obtain ⟨y38, e39, h⟩ := h
    refine ro_hy (o_cs (vs := [.pointer (some ⟨g_c, 0, none⟩), eaddr v_c_Next (y32.1.toNat * 1), iv 0]) (c_set_x (HS.sel (G := _ :: _ :: _ :: FR) [0, 1] 0 rfl).self g35.1 g35.2 e39) cf161 rfl) rfl ?_
    rintro _ w37 ⟨rfl, HS2⟩
    replace HS := (HS.sel (G := _ :: _ :: _ :: FR) [0, 1] 0 rfl).from HS2
    refine RO.nil (blk_nx (nx ?_))
    refine ex_region ?_
    refine ro_lt (r_addw rfl rfl) rfl ?_
    refine ro_lt (r_mv (v := iv (wi (i28 + 1))) rfl) rfl ?_
    refine RO.nil ?_
    obtain rfl := Option.some.inj h
    exact lq_go ⟨⟨rfl, rfl, rfl, rfl, rfl, trivial⟩, (HS.sel (G := _ :: _ :: _ :: FR) [0, 1, 0] 0 rfl)⟩
  rintro s' w43 ⟨hs_, HS⟩
  rw [has_put hs_]; clear hs_
  refine (nx ?_)
  refine ex_seq ?_
  refine ex_seq ?_
  refine ex_region ?_
  refine ro_lt (r_mv (v := .pointer (some ⟨g_c, 0, none⟩)) rfl) rfl ?_
  refine ro_lt (r_nc (HS.boxAt 0 rfl) rfl) rfl ?_
  refine ro_lt (r_fa (HS.boxAt 0 rfl) fd95_0 rfl) rfl ?_
  refine ro_lt (r_fa ((HS.boxAt 0 rfl).seg 0 2) fd27_0 rfl) rfl ?_
  refine ro_lt (r_ld (((HS.boxAt 0 rfl).seg 0 2).seg 0 1) sc24 rfl) rfl ?_
  refine ro_lt (r_mv (v := iv v) rfl) rfl ?_
  replace h := grd_some h; obtain ⟨g45, h⟩ := h
  refine ro_lt (r_ian HS (k := 1) rfl sl24 g45.1 g45.2 rfl rfl) rfl ?_
  refine ro_lt (r_fa (HS.nsAt 1 rfl (i := v.toNat) (by omega)) fd72_2 rfl) rfl ?_
  refine ro_lt (r_ld (v := iv ((y41.2.2.1.getD v.toNat dN).2.2.1)) ((HS.nsAt 1 rfl (i := v.toNat) (by omega)).seg 2 1) sc3 rfl) rfl ?_
  refine ro_lt (r_neq rfl rfl) rfl ?_
  refine RO.nil (nx ?_)
  replace h := ite_some h; rcases h with ⟨c46, h⟩ | ⟨c46, h⟩
  rotate_left
  · refine ex_if_t rfl (congrArg (!·) (decide_eq_false c46)) ?_
    obtain rfl := Option.some.inj h
    refine ex_ret (tq_ret ?_)
    exact ret0 (.inr rfl) rfl ⟨rfl, HS⟩
  refine ex_if_f rfl (congrArg (!·) (decide_eq_true c46)) ?_
  refine ex_skip (nx ?_)
  refine ex_seq ?_
  refine ex_region ?_
  refine ro_lt (r_mv (v := .pointer (some ⟨g_c, 0, none⟩)) rfl) rfl ?_
  refine ro_lt (r_mv (v := iv u) rfl) rfl ?_
  replace h := bind_some h; obtain ⟨y47, e48, h⟩ := h
  refine ro_hy (o_cs (vs := [.pointer (some ⟨g_c, 0, none⟩), iv u]) (c_impl_sharpener_one HS.self e48) cf162 rfl) rfl ?_
  rintro _ w49 ⟨rfl, HS2⟩
  replace HS := HS.from HS2
  refine RO.nil (nx ?_)
  refine ex_seq ?_
  refine ex_region ?_
  refine ro_lt (r_mv (v := .pointer (some ⟨g_c, 0, none⟩)) rfl) rfl ?_
  refine ro_lt (r_nc (HS.boxAt 0 rfl) rfl) rfl ?_
  refine ro_lt (r_fa (HS.boxAt 0 rfl) fd95_0 rfl) rfl ?_
  refine ro_lt (r_fa ((HS.boxAt 0 rfl).seg 0 2) fd27_0 rfl) rfl ?_
  refine ro_lt (r_ld (((HS.boxAt 0 rfl).seg 0 2).seg 0 1) sc24 rfl) rfl ?_
  refine ro_lt (r_lenn (m := 4) HS (k := 1) rfl sl24 rfl) rfl ?_
  refine ro_lt (r_mv (v := iv 0) rfl) rfl ?_
  refine RO.nil (nx ?_)
  replace h := bind_some h; obtain ⟨y77, e78, h⟩ := h
  refine ex_lbo (fun (st : Bool × Bool × (List (List Int × List Int × Int × Int)) × (List Int) × Int) s' w' => Has s' [(0, .pointer (some ⟨g_c, 0, none⟩)), (1, iv u), (2, iv v), (55, iv ((n_c : Int))), (56, iv st.2.2.2.2)] ∧ St w H w' (.bx g_c 95 [v_c_Nodes, v_c_Next, iv c_vars, .bool st.1, .bool st.2.1] :: .pr (NS 72 3 n_c v_c_Nodes sh_c st.2.2.1) :: .ow (.sl 3 (.int .i64)) st.2.2.2.1 [v_c_Next] :: FR)) e78 ⟨⟨rfl, rfl, rfl, rfl, rfl, trivial⟩, HS⟩ ?_ ?_
  · rintro ⟨changed_60, bad_61, Nodes_62, Next_63, i64⟩ c' s' w65 ⟨hs_, HS⟩ h
    rw [has_put hs_]; clear hs_
    try dsimp only at HS
    replace h : F_impl_sharpener_linked_b2 n_c u c_vars v changed_60 bad_61 Nodes_62 Next_63 i64 = some c' := h
    unfold F_impl_sharpener_linked_b2 at h
    refine ex_seq ?_
    refine ex_region ?_
    refine ro_lt (r_lss rfl rfl) rfl ?_
    refine RO.nil (nx ?_)
    refine ex_seq ?_
    replace h := ite_some h; rcases h with ⟨c66, h⟩ | ⟨c66, h⟩
    rotate_left
    · refine ex_if_f rfl (decide_eq_false c66) ?_
      refine ex_exit (tq_exit ?_)
      obtain rfl := Option.some.inj h
      exact lq_out ⟨⟨rfl, rfl, rfl, rfl, rfl, trivial⟩, HS⟩
    refine ex_if_t rfl (decide_eq_true c66) ?_
    refine ex_skip (nx ?_)
    refine ex_seq ?_
    refine ex_block ?_
    refine ex_seq ?_
    refine ex_region ?_
    refine ro_lt (r_mv (v := iv i64) rfl) rfl ?_
    refine ro_lt (r_as (v := iv i64) rfl) rfl ?_
    refine RO.nil (nx ?_)
    refine ex_seq ?_
    refine ex_region ?_
    refine ro_lt (r_mv (v := iv i64) rfl) rfl ?_
    refine ro_lt (r_mv (v := iv u) rfl) rfl ?_
    refine ro_lt (r_neq rfl rfl) rfl ?_
    refine RO.nil (nx ?_)
    replace h := ite_some h; rcases h with ⟨c67, h⟩ | ⟨c67, h⟩
    · refine ex_if_f rfl (congrArg (!·) (decide_eq_true c67)) ?_
      refine ex_skip (blk_nx (nx ?_))
      refine ex_region ?_
      refine ro_lt (r_addw rfl rfl) rfl ?_
      refine ro_lt (r_mv (v := iv (wi (i64 + 1))) rfl) rfl ?_
      refine RO.nil ?_
      obtain rfl := Option.some.inj h
      exact lq_go ⟨⟨rfl, rfl, rfl, rfl, rfl, trivial⟩, HS⟩
    refine ex_if_t rfl (congrArg (!·) (decide_eq_false c67)) ?_
    refine ex_region ?_
    refine ro_lt (r_mv (v := .pointer (some ⟨g_c, 0, none⟩)) rfl) rfl ?_
    refine ro_lt (r_mv (v := .pointer (some ⟨g_c, 0, none⟩)) rfl) rfl ?_
    refine ro_lt (r_mv (v := iv i64) rfl) rfl ?_
    refine ro_lt (r_mv (v := iv v) rfl) rfl ?_
    replace h := bind_some h; obtain ⟨y68, e69, h⟩ := h
    replace h := grd_some h; obtain ⟨g71, h⟩ := h
    refine ro_hy (o_cs (vs := [.pointer (some ⟨g_c, 0, none⟩), iv i64, iv v]) (c_impl_sharpener_next HS.self e69) cf163 rfl) rfl ?_
    rintro _ w70 ⟨rfl, HS2⟩
    replace HS := HS.from HS2
    replace h := bind_some h; obtain ⟨y74, e75, h⟩ := h
    refine ro_hy (o_cs (vs := [.pointer (some ⟨g_c, 0, none⟩), eaddr v_c_Next (y68.1.toNat * 1), iv 0]) (c_set_x (HS.sel (G := _ :: _ :: _ :: FR) [0, 1] 0 rfl).self g71.1 g71.2 e75) cf161 rfl) rfl ?_
    rintro _ w73 ⟨rfl, HS2⟩
    replace HS := (HS.sel (G := _ :: _ :: _ :: FR) [0, 1] 0 rfl).from HS2
    refine RO.nil (blk_nx (nx ?_))
    refine ex_region ?_
    refine ro_lt (r_addw rfl rfl) rfl ?_
    refine ro_lt (r_mv (v := iv (wi (i64 + 1))) rfl) rfl ?_
    refine RO.nil ?_
    obtain rfl := Option.some.inj h
    exact lq_go ⟨⟨rfl, rfl, rfl, rfl, rfl, trivial⟩, (HS.sel (G := _ :: _ :: _ :: FR) [0, 1, 0] 0 rfl)⟩
  rintro s' w79 ⟨hs_, HS⟩
  rw [has_put hs_]; clear hs_
  obtain rfl := Option.some.inj h
  exact ret0 (.inl rfl) rfl ⟨rfl, HS⟩
theorem c_impl_sharpener_round {w : World} {H : Hp} {FR : List Ob} {g_c : Nat} {v_c_Nodes : Value} {n_c : Nat} {sh_c : Shp} {c_Nodes : List (List Int × List Int × Int × Int)} {v_c_Next : Value} {c_Next : List Int} {c_vars : Int} {c_changed : Bool} {c_bad : Bool} (HS : St w H w (.bx g_c 95 [v_c_Nodes, v_c_Next, iv c_vars, .bool c_changed, .bool c_bad] :: .pr (NS 72 3 n_c v_c_Nodes sh_c c_Nodes) :: .ow (.sl 3 (.int .i64)) c_Next [v_c_Next] :: FR)) {r : List (List Int × List Int × Int × Int) × List Int × Bool × Bool} (h : F_impl_sharpener_round n_c c_Nodes c_Next c_vars c_changed c_bad = some r) : Calls Try.prog 82 [.pointer (some ⟨g_c, 0, none⟩)].toArray w (((fun r => PS (.tuple #[]) fun w' => St w H w' (.bx g_c 95 [v_c_Nodes, v_c_Next, iv c_vars, .bool r.2.2.1, .bool r.2.2.2] :: .pr (NS 72 3 n_c v_c_Nodes sh_c r.1) :: .ow (.sl 3 (.int .i64)) r.2.1 [v_c_Next] :: FR)) : (List (List Int × List Int × Int × Int) × List Int × Bool × Bool) → Ending → World → Prop) r) := by
  unfold F_impl_sharpener_round at h
  refine calls_ex (n := 84) Try.func82 rfl Try.ntmps82 (Nat.le_of_ble_eq_true rfl) ?_
  refine ex_seq ?_
  refine ex_seq ?_
  refine ex_region ?_
  refine ro_lt (r_mv (v := .pointer (some ⟨g_c, 0, none⟩)) rfl) rfl ?_
  refine ro_lt (r_nc (HS.boxAt 0 rfl) rfl) rfl ?_
  refine ro_lt (r_fa (HS.boxAt 0 rfl) fd95_1 rfl) rfl ?_
  refine ro_lt (r_ld ((HS.boxAt 0 rfl).seg 2 1) sc3 rfl) rfl ?_
  refine ro_lt (r_mv (v := iv 0) rfl) rfl ?_
  refine RO.nil (nx ?_)
  replace h := bind_some h; obtain ⟨y63, e64, h⟩ := h
  refine ex_lbo (fun (st : Bool × Bool × (List (List Int × List Int × Int × Int)) × (List Int) × Int) s' w' => Has s' [(0, .pointer (some ⟨g_c, 0, none⟩)), (10, iv c_vars), (11, iv st.2.2.2.2)] ∧ St w H w' (.bx g_c 95 [v_c_Nodes, v_c_Next, iv c_vars, .bool st.1, .bool st.2.1] :: .pr (NS 72 3 n_c v_c_Nodes sh_c st.2.2.1) :: .ow (.sl 3 (.int .i64)) st.2.2.2.1 [v_c_Next] :: FR)) e64 ⟨⟨rfl, rfl, rfl, trivial⟩, HS⟩ ?_ ?_
  · rintro ⟨changed_13, bad_14, Nodes_15, Next_16, i17⟩ c' s' w18 ⟨hs_, HS⟩ h
    rw [has_put hs_]; clear hs_
    try dsimp only at HS
    replace h : F_impl_sharpener_round_b3 c_vars n_c changed_13 bad_14 Nodes_15 Next_16 i17 = some c' := h
    unfold F_impl_sharpener_round_b3 at h
    refine ex_seq ?_
    refine ex_region ?_
    refine ro_lt (r_lss rfl rfl) rfl ?_
    refine RO.nil (nx ?_)
    refine ex_seq ?_
    replace h := ite_some h; rcases h with ⟨c19, h⟩ | ⟨c19, h⟩
    rotate_left
    · refine ex_if_f rfl (decide_eq_false c19) ?_
      refine ex_exit (tq_exit ?_)
      obtain rfl := Option.some.inj h
      exact lq_out ⟨⟨rfl, rfl, rfl, trivial⟩, HS⟩
    refine ex_if_t rfl (decide_eq_true c19) ?_
    refine ex_skip (nx ?_)
    refine ex_seq ?_
    refine ex_block ?_
    refine ex_seq ?_
    refine ex_region ?_
    refine ro_lt (r_mv (v := iv i17) rfl) rfl ?_
    refine ro_lt (r_as (v := iv i17) rfl) rfl ?_
    refine RO.nil (nx ?_)
    refine ex_seq ?_
    refine ex_region ?_
    refine ro_lt (r_mv (v := .pointer (some ⟨g_c, 0, none⟩)) rfl) rfl ?_
    refine ro_lt (r_mv (v := iv i17) rfl) rfl ?_
    replace h := bind_some h; obtain ⟨y20, e21, h⟩ := h
    refine ro_hy (o_cs (vs := [.pointer (some ⟨g_c, 0, none⟩), iv i17]) (c_impl_sharpener_null HS.self e21) cf131 rfl) rfl ?_
    rintro _ w22 ⟨rfl, HS2⟩
    replace HS := HS.from HS2
    refine RO.nil (nx ?_)
    refine ex_seq ?_
    refine ex_region ?_
    refine ro_lt (r_mv (v := .pointer (some ⟨g_c, 0, none⟩)) rfl) rfl ?_
    refine ro_lt (r_nc (HS.boxAt 0 rfl) rfl) rfl ?_
    refine ro_lt (r_fa (HS.boxAt 0 rfl) fd95_0 rfl) rfl ?_
    refine ro_lt (r_fa ((HS.boxAt 0 rfl).seg 0 2) fd27_0 rfl) rfl ?_
    refine ro_lt (r_ld (((HS.boxAt 0 rfl).seg 0 2).seg 0 1) sc24 rfl) rfl ?_
    have b24 := HS.nsBig 1 rfl
    refine ro_lt (r_lenn (m := 4) HS (k := 1) rfl sl24 rfl) rfl ?_
    refine ro_lt (r_mv (v := iv 0) rfl) rfl ?_
    refine RO.nil (nx ?_)
    replace h := bind_some h; obtain ⟨y59, e60, h⟩ := h
    refine ex_lbo (fun (st : Bool × Bool × (List (List Int × List Int × Int × Int)) × (List Int) × Int) s' w' => Has s' [(0, .pointer (some ⟨g_c, 0, none⟩)), (2, iv i17), (10, iv c_vars), (11, iv i17), (22, iv ((n_c : Int))), (23, iv st.2.2.2.2)] ∧ St w H w' (.bx g_c 95 [v_c_Nodes, v_c_Next, iv c_vars, .bool st.1, .bool st.2.1] :: .pr (NS 72 3 n_c v_c_Nodes sh_c st.2.2.1) :: .ow (.sl 3 (.int .i64)) st.2.2.2.1 [v_c_Next] :: FR)) e60 ⟨⟨rfl, rfl, rfl, rfl, rfl, rfl, trivial⟩, HS⟩ ?_ ?_
    · rintro ⟨changed_27, bad_28, Nodes_29, Next_30, i31⟩ c' s' w32 ⟨hs_, HS⟩ h
      rw [has_put hs_]; clear hs_
      try dsimp only at HS
      replace h : F_impl_sharpener_round_b2 n_c c_vars i17 changed_27 bad_28 Nodes_29 Next_30 i31 = some c' := h
      unfold F_impl_sharpener_round_b2 at h
      refine ex_seq ?_
      refine ex_region ?_
      refine ro_lt (r_lss rfl rfl) rfl ?_
      refine RO.nil (nx ?_)
      refine ex_seq ?_
      replace h := ite_some h; rcases h with ⟨c33, h⟩ | ⟨c33, h⟩
      rotate_left
      · refine ex_if_f rfl (decide_eq_false c33) ?_
        refine ex_exit (tq_exit ?_)
        obtain rfl := Option.some.inj h
        exact lq_out ⟨⟨rfl, rfl, rfl, rfl, rfl, rfl, trivial⟩, HS⟩
      refine ex_if_t rfl (decide_eq_true c33) ?_
      refine ex_skip (nx ?_)
      refine ex_seq ?_
      refine ex_block ?_
      refine ex_seq ?_
      refine ex_region ?_
      refine ro_lt (r_mv (v := iv i31) rfl) rfl ?_
      refine ro_lt (r_as (v := iv i31) rfl) rfl ?_
      refine RO.nil (nx ?_)
      refine ex_seq ?_
      refine ex_region ?_
      refine ro_lt (r_mv (v := .pointer (some ⟨g_c, 0, none⟩)) rfl) rfl ?_
      refine ro_lt (r_mv (v := iv i17) rfl) rfl ?_
      refine ro_lt (r_mv (v := iv i31) rfl) rfl ?_
      replace h := bind_some h; obtain ⟨y34, e35, h⟩ := h
      refine ro_hy (o_cs (vs := [.pointer (some ⟨g_c, 0, none⟩), iv i17, iv i31]) (c_impl_sharpener_pointed HS.self e35) cf132 rfl) rfl ?_
      rintro _ w36 ⟨rfl, HS2⟩
      replace HS := HS.from HS2
      refine RO.nil (nx ?_)
      refine ex_seq ?_
      refine ex_region ?_
      refine ro_lt (r_mv (v := .pointer (some ⟨g_c, 0, none⟩)) rfl) rfl ?_
      refine ro_lt (r_mv (v := iv i17) rfl) rfl ?_
      refine ro_lt (r_mv (v := iv i31) rfl) rfl ?_
      replace h := bind_some h; obtain ⟨y38, e39, h⟩ := h
      refine ro_hy (o_cs (vs := [.pointer (some ⟨g_c, 0, none⟩), iv i17, iv i31]) (c_impl_sharpener_sourced HS.self e39) cf133 rfl) rfl ?_
      rintro _ w40 ⟨rfl, HS2⟩
      replace HS := HS.from HS2
      refine RO.nil (nx ?_)
      refine ex_seq ?_
      refine ex_region ?_
      refine ro_lt (r_mv (v := .pointer (some ⟨g_c, 0, none⟩)) rfl) rfl ?_
      refine ro_lt (r_nc (HS.boxAt 0 rfl) rfl) rfl ?_
      refine ro_lt (r_fa (HS.boxAt 0 rfl) fd95_0 rfl) rfl ?_
      refine ro_lt (r_fa ((HS.boxAt 0 rfl).seg 0 2) fd27_0 rfl) rfl ?_
      refine ro_lt (r_ld (((HS.boxAt 0 rfl).seg 0 2).seg 0 1) sc24 rfl) rfl ?_
      refine ro_lt (r_lenn (m := 4) HS (k := 1) rfl sl24 rfl) rfl ?_
      refine ro_lt (r_mv (v := iv 0) rfl) rfl ?_
      refine RO.nil (nx ?_)
      replace h := bind_some h; obtain ⟨y55, e56, h⟩ := h
      refine ex_lbo (fun (st : Bool × Bool × (List (List Int × List Int × Int × Int)) × (List Int) × Int) s' w' => Has s' [(0, .pointer (some ⟨g_c, 0, none⟩)), (2, iv i17), (3, iv i31), (10, iv c_vars), (11, iv i17), (22, iv ((n_c : Int))), (23, iv i31), (39, iv ((n_c : Int))), (40, iv st.2.2.2.2)] ∧ St w H w' (.bx g_c 95 [v_c_Nodes, v_c_Next, iv c_vars, .bool st.1, .bool st.2.1] :: .pr (NS 72 3 n_c v_c_Nodes sh_c st.2.2.1) :: .ow (.sl 3 (.int .i64)) st.2.2.2.1 [v_c_Next] :: FR)) e56 ⟨⟨rfl, rfl, rfl, rfl, rfl, rfl, rfl, rfl, rfl, trivial⟩, HS⟩ ?_ ?_
      · rintro ⟨changed_44, bad_45, Nodes_46, Next_47, i48⟩ c' s' w49 ⟨hs_, HS⟩ h
        rw [has_put hs_]; clear hs_
        try dsimp only at HS
        replace h : F_impl_sharpener_round_b1 n_c c_vars i17 i31 changed_44 bad_45 Nodes_46 Next_47 i48 = some c' := h
        unfold F_impl_sharpener_round_b1 at h
        refine ex_seq ?_
        refine ex_region ?_
        refine ro_lt (r_lss rfl rfl) rfl ?_
        refine RO.nil (nx ?_)
        refine ex_seq ?_
        replace h := ite_some h; rcases h with ⟨c50, h⟩ | ⟨c50, h⟩
        rotate_left
        · refine ex_if_f rfl (decide_eq_false c50) ?_
          refine ex_exit (tq_exit ?_)
          obtain rfl := Option.some.inj h
          exact lq_out ⟨⟨rfl, rfl, rfl, rfl, rfl, rfl, rfl, rfl, rfl, trivial⟩, HS⟩
        refine ex_if_t rfl (decide_eq_true c50) ?_
        refine ex_skip (nx ?_)
        refine ex_seq ?_
        refine ex_block ?_
        refine ex_seq ?_
        refine ex_region ?_
        refine ro_lt (r_mv (v := iv i48) rfl) rfl ?_
        refine ro_lt (r_as (v := iv i48) rfl) rfl ?_
        refine RO.nil (nx ?_)
        refine ex_region ?_
        refine ro_lt (r_mv (v := .pointer (some ⟨g_c, 0, none⟩)) rfl) rfl ?_
        refine ro_lt (r_mv (v := iv i17) rfl) rfl ?_
        refine ro_lt (r_mv (v := iv i31) rfl) rfl ?_
        refine ro_lt (r_mv (v := iv i48) rfl) rfl ?_
        replace h := bind_some h; obtain ⟨y51, e52, h⟩ := h
        refine ro_hy (o_cs (vs := [.pointer (some ⟨g_c, 0, none⟩), iv i17, iv i31, iv i48]) (c_impl_sharpener_followed HS.self e52) cf134 rfl) rfl ?_
        rintro _ w53 ⟨rfl, HS2⟩
        replace HS := HS.from HS2
        refine RO.nil (blk_nx (nx ?_))
        refine ex_region ?_
        refine ro_lt (r_addw rfl rfl) rfl ?_
        refine ro_lt (r_mv (v := iv (wi (i48 + 1))) rfl) rfl ?_
        refine RO.nil ?_
        obtain rfl := Option.some.inj h
        exact lq_go ⟨⟨rfl, rfl, rfl, rfl, rfl, rfl, rfl, rfl, rfl, trivial⟩, HS⟩
      rintro s' w57 ⟨hs_, HS⟩
      rw [has_put hs_]; clear hs_
      refine (blk_nx (nx ?_))
      refine ex_region ?_
      refine ro_lt (r_addw rfl rfl) rfl ?_
      refine ro_lt (r_mv (v := iv (wi (i31 + 1))) rfl) rfl ?_
      refine RO.nil ?_
      obtain rfl := Option.some.inj h
      exact lq_go ⟨⟨rfl, rfl, rfl, rfl, rfl, rfl, trivial⟩, HS⟩
    rintro s' w61 ⟨hs_, HS⟩
    rw [has_put hs_]; clear hs_
    refine (blk_nx (nx ?_))
    refine ex_region ?_
    refine ro_lt (r_addw rfl rfl) rfl ?_
    refine ro_lt (r_mv (v := iv (wi (i17 + 1))) rfl) rfl ?_
    refine RO.nil ?_
    obtain rfl := Option.some.inj h
    exact lq_go ⟨⟨rfl, rfl, rfl, trivial⟩, HS⟩
  rintro s' w65 ⟨hs_, HS⟩
  rw [has_put hs_]; clear hs_
  refine (nx ?_)
  refine ex_seq ?_
  refine ex_region ?_
  refine ro_lt (r_mv (v := .pointer (some ⟨g_c, 0, none⟩)) rfl) rfl ?_
  refine ro_lt (r_nc (HS.boxAt 0 rfl) rfl) rfl ?_
  refine ro_lt (r_fa (HS.boxAt 0 rfl) fd95_0 rfl) rfl ?_
  refine ro_lt (r_fa ((HS.boxAt 0 rfl).seg 0 2) fd27_0 rfl) rfl ?_
  refine ro_lt (r_ld (((HS.boxAt 0 rfl).seg 0 2).seg 0 1) sc24 rfl) rfl ?_
  have b67 := HS.nsBig 1 rfl
  refine ro_lt (r_lenn (m := 4) HS (k := 1) rfl sl24 rfl) rfl ?_
  refine ro_lt (r_mv (v := iv 0) rfl) rfl ?_
  refine RO.nil (nx ?_)
  replace h := bind_some h; obtain ⟨y113, e114, h⟩ := h
  refine ex_lbo (fun (st : Bool × Bool × (List (List Int × List Int × Int × Int)) × (List Int) × Int) s' w' => Has s' [(0, .pointer (some ⟨g_c, 0, none⟩)), (56, iv ((n_c : Int))), (57, iv st.2.2.2.2)] ∧ St w H w' (.bx g_c 95 [v_c_Nodes, v_c_Next, iv c_vars, .bool st.1, .bool st.2.1] :: .pr (NS 72 3 n_c v_c_Nodes sh_c st.2.2.1) :: .ow (.sl 3 (.int .i64)) st.2.2.2.1 [v_c_Next] :: FR)) e114 ⟨⟨rfl, rfl, rfl, trivial⟩, HS⟩ ?_ ?_
  · rintro ⟨changed_77, bad_78, Nodes_79, Next_80, i81⟩ c' s' w82 ⟨hs_, HS⟩ h
    rw [has_put hs_]; clear hs_
    try dsimp only at HS
    replace h : F_impl_sharpener_round_b5 n_c c_vars changed_77 bad_78 Nodes_79 Next_80 i81 = some c' := h
    unfold F_impl_sharpener_round_b5 at h
    refine ex_seq ?_
    refine ex_region ?_
    refine ro_lt (r_lss rfl rfl) rfl ?_
    refine RO.nil (nx ?_)
    refine ex_seq ?_
    replace h := ite_some h; rcases h with ⟨c83, h⟩ | ⟨c83, h⟩
    rotate_left
    · refine ex_if_f rfl (decide_eq_false c83) ?_
      refine ex_exit (tq_exit ?_)
      obtain rfl := Option.some.inj h
      exact lq_out ⟨⟨rfl, rfl, rfl, trivial⟩, HS⟩
    refine ex_if_t rfl (decide_eq_true c83) ?_
    refine ex_skip (nx ?_)
    refine ex_seq ?_
    refine ex_block ?_
    refine ex_seq ?_
    refine ex_region ?_
    refine ro_lt (r_mv (v := iv i81) rfl) rfl ?_
    refine ro_lt (r_as (v := iv i81) rfl) rfl ?_
    refine RO.nil (nx ?_)
    refine ex_seq ?_
    refine ex_region ?_
    refine ro_lt (r_mv (v := .pointer (some ⟨g_c, 0, none⟩)) rfl) rfl ?_
    refine ro_lt (r_mv (v := iv i81) rfl) rfl ?_
    replace h := bind_some h; obtain ⟨y84, e85, h⟩ := h
    refine ro_hy (o_cs (vs := [.pointer (some ⟨g_c, 0, none⟩), iv i81]) (c_impl_sharpener_acyclic HS.self e85) cf135 rfl) rfl ?_
    rintro _ w86 ⟨rfl, HS2⟩
    replace HS := HS.from HS2
    refine RO.nil (nx ?_)
    refine ex_seq ?_
    refine ex_region ?_
    refine ro_lt (r_mv (v := .pointer (some ⟨g_c, 0, none⟩)) rfl) rfl ?_
    refine ro_lt (r_mv (v := iv i81) rfl) rfl ?_
    replace h := bind_some h; obtain ⟨y88, e89, h⟩ := h
    refine ro_hy (o_cs (vs := [.pointer (some ⟨g_c, 0, none⟩), iv i81]) (c_impl_sharpener_shared HS.self e89) cf136 rfl) rfl ?_
    rintro _ w90 ⟨rfl, HS2⟩
    replace HS := HS.from HS2
    refine RO.nil (nx ?_)
    refine ex_seq ?_
    refine ex_region ?_
    refine ro_lt (r_mv (v := .pointer (some ⟨g_c, 0, none⟩)) rfl) rfl ?_
    refine ro_lt (r_mv (v := iv i81) rfl) rfl ?_
    replace h := bind_some h; obtain ⟨y92, e93, h⟩ := h
    refine ro_hy (o_cs (vs := [.pointer (some ⟨g_c, 0, none⟩), iv i81]) (c_impl_sharpener_met HS.self e93) cf137 rfl) rfl ?_
    rintro _ w94 ⟨rfl, HS2⟩
    replace HS := HS.from HS2
    refine RO.nil (nx ?_)
    refine ex_seq ?_
    refine ex_region ?_
    refine ro_lt (r_mv (v := .pointer (some ⟨g_c, 0, none⟩)) rfl) rfl ?_
    refine ro_lt (r_nc (HS.boxAt 0 rfl) rfl) rfl ?_
    refine ro_lt (r_fa (HS.boxAt 0 rfl) fd95_0 rfl) rfl ?_
    refine ro_lt (r_fa ((HS.boxAt 0 rfl).seg 0 2) fd27_0 rfl) rfl ?_
    refine ro_lt (r_ld (((HS.boxAt 0 rfl).seg 0 2).seg 0 1) sc24 rfl) rfl ?_
    refine ro_lt (r_lenn (m := 4) HS (k := 1) rfl sl24 rfl) rfl ?_
    refine ro_lt (r_mv (v := iv 0) rfl) rfl ?_
    refine RO.nil (nx ?_)
    replace h := bind_some h; obtain ⟨y109, e110, h⟩ := h
    refine ex_lbo (fun (st : Bool × Bool × (List (List Int × List Int × Int × Int)) × (List Int) × Int) s' w' => Has s' [(0, .pointer (some ⟨g_c, 0, none⟩)), (5, iv i81), (56, iv ((n_c : Int))), (57, iv i81), (74, iv ((n_c : Int))), (75, iv st.2.2.2.2)] ∧ St w H w' (.bx g_c 95 [v_c_Nodes, v_c_Next, iv c_vars, .bool st.1, .bool st.2.1] :: .pr (NS 72 3 n_c v_c_Nodes sh_c st.2.2.1) :: .ow (.sl 3 (.int .i64)) st.2.2.2.1 [v_c_Next] :: FR)) e110 ⟨⟨rfl, rfl, rfl, rfl, rfl, rfl, trivial⟩, HS⟩ ?_ ?_
    · rintro ⟨changed_98, bad_99, Nodes_100, Next_101, i102⟩ c' s' w103 ⟨hs_, HS⟩ h
      rw [has_put hs_]; clear hs_
      try dsimp only at HS
      replace h : F_impl_sharpener_round_b4 n_c c_vars i81 changed_98 bad_99 Nodes_100 Next_101 i102 = some c' := h
      unfold F_impl_sharpener_round_b4 at h
      refine ex_seq ?_
      refine ex_region ?_
      refine ro_lt (r_lss rfl rfl) rfl ?_
      refine RO.nil (nx ?_)
      refine ex_seq ?_
      replace h := ite_some h; rcases h with ⟨c104, h⟩ | ⟨c104, h⟩
      rotate_left
      · refine ex_if_f rfl (decide_eq_false c104) ?_
        refine ex_exit (tq_exit ?_)
        obtain rfl := Option.some.inj h
        exact lq_out ⟨⟨rfl, rfl, rfl, rfl, rfl, rfl, trivial⟩, HS⟩
      refine ex_if_t rfl (decide_eq_true c104) ?_
      refine ex_skip (nx ?_)
      refine ex_seq ?_
      refine ex_block ?_
      refine ex_seq ?_
      refine ex_region ?_
      refine ro_lt (r_mv (v := iv i102) rfl) rfl ?_
      refine ro_lt (r_as (v := iv i102) rfl) rfl ?_
      refine RO.nil (nx ?_)
      refine ex_region ?_
      refine ro_lt (r_mv (v := .pointer (some ⟨g_c, 0, none⟩)) rfl) rfl ?_
      refine ro_lt (r_mv (v := iv i81) rfl) rfl ?_
      refine ro_lt (r_mv (v := iv i102) rfl) rfl ?_
      replace h := bind_some h; obtain ⟨y105, e106, h⟩ := h
      refine ro_hy (o_cs (vs := [.pointer (some ⟨g_c, 0, none⟩), iv i81, iv i102]) (c_impl_sharpener_linked HS.self e106) cf138 rfl) rfl ?_
      rintro _ w107 ⟨rfl, HS2⟩
      replace HS := HS.from HS2
      refine RO.nil (blk_nx (nx ?_))
      refine ex_region ?_
      refine ro_lt (r_addw rfl rfl) rfl ?_
      refine ro_lt (r_mv (v := iv (wi (i102 + 1))) rfl) rfl ?_
      refine RO.nil ?_
      obtain rfl := Option.some.inj h
      exact lq_go ⟨⟨rfl, rfl, rfl, rfl, rfl, rfl, trivial⟩, HS⟩
    rintro s' w111 ⟨hs_, HS⟩
    rw [has_put hs_]; clear hs_
    refine (blk_nx (nx ?_))
    refine ex_region ?_
    refine ro_lt (r_addw rfl rfl) rfl ?_
    refine ro_lt (r_mv (v := iv (wi (i81 + 1))) rfl) rfl ?_
    refine RO.nil ?_
    obtain rfl := Option.some.inj h
    exact lq_go ⟨⟨rfl, rfl, rfl, trivial⟩, HS⟩
  rintro s' w115 ⟨hs_, HS⟩
  rw [has_put hs_]; clear hs_
  obtain rfl := Option.some.inj h
  exact ret0 (.inl rfl) rfl ⟨rfl, HS⟩
theorem c_impl_Coerce {w : World} {vars : Int} {s : (List (List Int × List Int × Int × Int)) × List Int} {v_s0 : Value} {v_s1 : Value} (r_s0 : Rd (.sl 72 (.prod (.sl 3 (.int .i64)) (.prod (.sl 3 (.int .i64)) (.prod (.int .i64) (.int .i64))))) (hp w) s.1 [v_s0]) (r_s1 : Rd (.sl 3 (.int .i64)) (hp w) s.2 [v_s1]) {r : ((List (List Int × List Int × Int × Int)) × List Int) × Bool} (h : F_impl_Coerce vars s = some r) : Calls Try.prog 28 [iv vars, .agg #[v_s0, v_s1]].toArray w (P2 (.prod (.sl 72 (.prod (.sl 3 (.int .i64)) (.prod (.sl 3 (.int .i64)) (.prod (.int .i64) (.int .i64))))) (.sl 3 (.int .i64))) .bool w r) := by
  unfold F_impl_Coerce at h
  have HS := St.init w
  have hs := Sub.refl (hp w)
  refine calls_ex (n := 42) Try.func28 rfl Try.ntmps28 (Nat.le_of_ble_eq_true rfl) ?_
  refine ex_seq ?_
  refine ex_region ?_
  refine ro_hy (o_boxz HS (cs := [v_s0, v_s1]) rfl rfl) rfl ?_
  rintro _ w2 ⟨g1, H5, rfl, q3, l4, hb, HS⟩
  replace r_s0 := r_s0.sub q3
  replace r_s1 := r_s1.sub q3
  replace hs := hs.trans q3
  refine ro_hy (o_alloc HS (cs := [.slice none 0 0, .slice none 0 0]) ze27 rfl) rfl ?_
  rintro _ w7 ⟨g6, rfl, hb, HS⟩
  refine ro_lt (r_as (v := .bool false) rfl) rfl ?_
  refine RO.nil (nx ?_)
  refine ex_seq ?_
  refine ex_seq ?_
  refine ex_region ?_
  refine ro_lt (r_mv (v := iv vars) rfl) rfl ?_
  refine ro_lt (r_lda (l4.sub HS.sub) ag27 rfl rfl) rfl ?_
  replace h := bind_some h; obtain ⟨y9, e10, h⟩ := h
  refine ro_hy (o_cf (vs := [iv vars, .agg #[v_s0, v_s1]]) HS rfl (c_impl_IsStructure (r_s0.sub HS.sub) (r_s1.sub HS.sub) e10) cf47 rfl) rfl ?_
  rintro _ w11 ⟨rfl, hb, HS⟩
  refine ro_lt (r_not rfl) rfl ?_
  refine RO.nil (nx ?_)
  replace h := ite_some h; rcases h with ⟨c12, h⟩ | ⟨c12, h⟩
  rotate_left
  · refine ex_if_t rfl (congrArg (!·) (bf c12)) ?_
    refine ex_seq ?_
    refine ex_region ?_
    refine ro_lt (r_bld (cells := [.slice none 0 0, .slice none 0 0]) bz27 rfl vp0 rfl) rfl ?_
    refine ro_hy (o_str (off := 0) (vs := [.slice none 0 0, .slice none 0 0]) (l' := [.slice none 0 0, .slice none 0 0]) HS rfl rfl rfl st27 rfl rfl (pl rfl (pl rfl pl0)) rfl) rfl ?_
    rintro _ w55 ⟨rfl, hk, HS⟩
    refine ro_lt (r_as (v := .bool false) rfl) rfl ?_
    refine RO.nil (nx ?_)
    obtain rfl := Option.some.inj h
    refine ex_ret (tq_ret ?_)
    exact ret2 (v1 := .agg #[.slice none 0 0, .slice none 0 0]) (v2 := .bool false) (.inr rfl) rfl (rv_box HS (i := 0) rfl rfl ag27 rfl) rfl (P2.of (t := (.prod (.sl 72 (.prod (.sl 3 (.int .i64)) (.prod (.sl 3 (.int .i64)) (.prod (.int .i64) (.int .i64))))) (.sl 3 (.int .i64)))) (u := .bool) (cs := [.slice none 0 0, .slice none 0 0]) (ds := [.bool false]) (r := (([], []), false)) ((((HS.add (t := .bool) (x := false) (cs := [.bool false]) rfl rfl).nil 3 (.int .i64)).nil 72 (.prod (.sl 3 (.int .i64)) (.prod (.sl 3 (.int .i64)) (.prod (.int .i64) (.int .i64))))).join) hs)
  refine ex_if_f rfl (congrArg (!·) (c12)) ?_
  refine ex_skip (nx ?_)
  refine ex_seq ?_
  refine ex_region ?_
  refine ro_lt (r_lda (l4.sub HS.sub) ag27 rfl rfl) rfl ?_
  replace h := bind_some h; obtain ⟨y13, e14, h⟩ := h
  refine ro_hy (o_c1 (vs := [.agg #[v_s0, v_s1]]) HS (c_Str_own (r_s0.sub HS.sub) (r_s1.sub HS.sub) e14) cf49 rfl) rfl ?_
  rintro _ w15 ⟨cs16, rfl, hb, HS⟩
  replace HS := st_K27 HS
  obtain ⟨v18, v20, rfl, HS⟩ := HS
  refine ro_lt (r_mv (v := iv vars) rfl) rfl ?_
  refine ro_lt (r_bld (cells := [v18, v20, iv vars, .bool true, .bool false]) bz95 rfl (vp rfl (vp rfl (vp rfl vp0))) rfl) rfl ?_
  refine ro_hy (o_box HS (cs := [v18, v20, iv vars, .bool true, .bool false]) rfl rfl) rfl ?_
  rintro _ w22 ⟨g21, rfl, hb, HS⟩
  replace HS := (HS.sel (G := [_, _, _, _]) [1] 0 rfl)
  obtain ⟨sh24, HS⟩ := HS.nsOf
  refine ro_lt (r_as (v := .pointer (some ⟨g21, 0, none⟩)) rfl) rfl ?_
  refine RO.nil (nx ?_)
  refine ex_seq ?_
  replace h := bind_some h; obtain ⟨y40, e41, h⟩ := h
  refine ex_lbo (fun (st : Bool × Bool × (List (List Int × List Int × Int × Int)) × (List Int)) s' w' => Has s' [(4, .pointer (some ⟨g6, 0, none⟩)), (5, .bool false), (6, .pointer (some ⟨g21, 0, none⟩))] ∧ St w H5 w' [.pr (NS 72 3 y13.1.length v18 sh24 st.2.2.1), .bx g21 95 [v18, v20, iv vars, .bool st.1, .bool st.2.1], .ow (.sl 3 (.int .i64)) st.2.2.2 [v20], .bx g6 27 [.slice none 0 0, .slice none 0 0]]) e41 ⟨⟨rfl, rfl, rfl, trivial⟩, HS⟩ ?_ ?_
  · rintro ⟨changed_27, bad_28, Nodes_29, Next_30⟩ c' s' w31 ⟨hs_, HS⟩ h
    rw [has_put hs_]; clear hs_
    try dsimp only at HS
    replace h : F_impl_Coerce_b1 y13 vars changed_27 bad_28 Nodes_29 Next_30 = some c' := h
    unfold F_impl_Coerce_b1 at h
    refine ex_seq ?_
    refine ex_seq ?_
    refine ex_region ?_
    refine ro_lt (r_mv (v := .pointer (some ⟨g21, 0, none⟩)) rfl) rfl ?_
    refine ro_lt (r_nc (HS.boxAt 1 rfl) rfl) rfl ?_
    refine ro_lt (r_fa (HS.boxAt 1 rfl) fd95_2 rfl) rfl ?_
    refine ro_lt (r_ld ((HS.boxAt 1 rfl).seg 3 1) sc4 rfl) rfl ?_
    refine ro_lt (r_mv (v := .bool changed_27) rfl) rfl ?_
    replace h := ite_some h; rcases h with ⟨c32, h⟩ | ⟨c32, h⟩
    rotate_left
    · refine ro_off (sb (bf c32)) rfl rfl ?_
      refine ro_off (sb (bf c32)) rfl rfl ?_
      refine ro_off (sb (bf c32)) rfl rfl ?_
      refine ro_off (sb (bf c32)) rfl rfl ?_
      refine ro_off (sb (bf c32)) rfl rfl ?_
      refine ro_lt (r_pickf (v := .bool false) (bf c32) rfl rfl) rfl ?_
      refine RO.nil (nx ?_)
      refine ex_if_f rfl (rfl) ?_
      refine ex_exit (tq_exit ?_)
      obtain rfl := Option.some.inj h
      exact lq_out ⟨⟨rfl, rfl, rfl, trivial⟩, HS⟩
    refine ro_on (sb (c32)) ?_
    refine ro_lt (r_mv (v := .pointer (some ⟨g21, 0, none⟩)) rfl) rfl ?_
    refine ro_on (sb (c32)) ?_
    refine ro_lt (r_nc (HS.boxAt 1 rfl) rfl) rfl ?_
    refine ro_on (sb (c32)) ?_
    refine ro_lt (r_fa (HS.boxAt 1 rfl) fd95_3 rfl) rfl ?_
    refine ro_on (sb (c32)) ?_
    refine ro_lt (r_ld ((HS.boxAt 1 rfl).seg 4 1) sc4 rfl) rfl ?_
    refine ro_on (sb (c32)) ?_
    refine ro_lt (r_not rfl) rfl ?_
    refine ro_lt (r_pickt (v := .bool ((!bad_28))) (c32) rfl rfl) rfl ?_
    refine RO.nil (nx ?_)
    replace h := ite_some h; rcases h with ⟨c33, h⟩ | ⟨c33, h⟩
    · refine ex_if_f rfl (congrArg (!·) (c33)) ?_
      refine ex_exit (tq_exit ?_)
      obtain rfl := Option.some.inj h
      exact lq_out ⟨⟨rfl, rfl, rfl, trivial⟩, HS⟩
    refine ex_if_t rfl (congrArg (!·) (bf c33)) ?_
    refine ex_skip (nx ?_)
    refine ex_block ?_
    refine ex_seq ?_
    refine ex_region ?_
    refine ro_lt (r_mv (v := .pointer (some ⟨g21, 0, none⟩)) rfl) rfl ?_
    refine ro_lt (r_nc (HS.boxAt 1 rfl) rfl) rfl ?_
    refine ro_lt (r_fa (HS.boxAt 1 rfl) fd95_2 rfl) rfl ?_
    refine ro_hy (o_str (off := 3) (vs := [.bool false]) (l' := [v18, v20, iv vars, .bool false, .bool bad_28]) (HS.sel (G := [_, _, _, _]) [1] 0 rfl) rfl rfl rfl st4 rfl rfl (pl rfl pl0) rfl) rfl ?_
    rintro _ w34 ⟨rfl, hk, HS⟩
    refine RO.nil (nx ?_)
    refine ex_region ?_
    refine ro_lt (r_mv (v := .pointer (some ⟨g21, 0, none⟩)) rfl) rfl ?_
    replace h := bind_some h; obtain ⟨y36, e37, h⟩ := h
    refine ro_hy (o_cs (vs := [.pointer (some ⟨g21, 0, none⟩)]) (c_impl_sharpener_round HS.self e37) cf82 rfl) rfl ?_
    rintro _ w38 ⟨rfl, HS2⟩
    replace HS := HS.from HS2
    refine RO.nil (blk_nx ?_)
    obtain rfl := Option.some.inj h
    exact lq_go ⟨⟨rfl, rfl, rfl, trivial⟩, (HS.sel (G := [_, _, _, _]) [1, 0, 0, 0] 0 rfl)⟩
  rintro s' w42 ⟨hs_, HS⟩
  rw [has_put hs_]; clear hs_
  refine (nx ?_)
  refine ex_seq ?_
  refine ex_seq ?_
  refine ex_region ?_
  refine ro_lt (r_mv (v := .pointer (some ⟨g21, 0, none⟩)) rfl) rfl ?_
  refine ro_lt (r_nc (HS.boxAt 1 rfl) rfl) rfl ?_
  refine ro_lt (r_fa (HS.boxAt 1 rfl) fd95_3 rfl) rfl ?_
  refine ro_lt (r_ld ((HS.boxAt 1 rfl).seg 4 1) sc4 rfl) rfl ?_
  refine RO.nil (nx ?_)
  replace h := ite_some h; rcases h with ⟨c44, h⟩ | ⟨c44, h⟩
  · refine ex_if_t rfl (c44) ?_
    refine ex_seq ?_
    refine ex_region ?_
    refine ro_lt (r_bld (cells := [.slice none 0 0, .slice none 0 0]) bz27 rfl vp0 rfl) rfl ?_
    refine ro_hy (o_str (off := 0) (vs := [.slice none 0 0, .slice none 0 0]) (l' := [.slice none 0 0, .slice none 0 0]) (HS.sel (G := [_, _, _, _]) [3] 0 rfl) rfl rfl rfl st27 rfl rfl (pl rfl (pl rfl pl0)) rfl) rfl ?_
    rintro _ w45 ⟨rfl, hk, HS⟩
    refine ro_lt (r_as (v := .bool false) rfl) rfl ?_
    refine RO.nil (nx ?_)
    obtain rfl := Option.some.inj h
    refine ex_ret (tq_ret ?_)
    exact ret2 (v1 := .agg #[.slice none 0 0, .slice none 0 0]) (v2 := .bool false) (.inr rfl) rfl (rv_box HS (i := 0) rfl rfl ag27 rfl) rfl (P2.of (t := (.prod (.sl 72 (.prod (.sl 3 (.int .i64)) (.prod (.sl 3 (.int .i64)) (.prod (.int .i64) (.int .i64))))) (.sl 3 (.int .i64)))) (u := .bool) (cs := [.slice none 0 0, .slice none 0 0]) (ds := [.bool false]) (r := (([], []), false)) ((((HS.add (t := .bool) (x := false) (cs := [.bool false]) rfl rfl).nil 3 (.int .i64)).nil 72 (.prod (.sl 3 (.int .i64)) (.prod (.sl 3 (.int .i64)) (.prod (.int .i64) (.int .i64))))).join) hs)
  refine ex_if_f rfl (bf c44) ?_
  refine ex_skip (nx ?_)
  refine ex_seq ?_
  refine ex_region ?_
  refine ro_lt (r_mv (v := .pointer (some ⟨g21, 0, none⟩)) rfl) rfl ?_
  refine ro_lt (r_nc (HS.boxAt 1 rfl) rfl) rfl ?_
  refine ro_lt (r_fa (HS.boxAt 1 rfl) fd95_0 rfl) rfl ?_
  refine ro_lt (r_lda ((HS.boxAt 1 rfl).seg 0 2) ag27 rfl rfl) rfl ?_
  refine ro_hy (o_str (off := 0) (vs := [v18, v20]) (l' := [v18, v20]) (HS.sel (G := [_, _, _, _]) [3] 0 rfl) rfl rfl rfl st27 rfl rfl (pl (HS.nsRd 0 rfl).pl (pl (HS.rd 2 rfl).pl pl0)) rfl) rfl ?_
  rintro _ w51 ⟨rfl, hk, HS⟩
  refine ro_lt (r_as (v := .bool true) rfl) rfl ?_
  refine RO.nil (nx ?_)
  obtain rfl := Option.some.inj h
  refine ex_ret ?_
  exact ret2 (v1 := .agg #[v18, v20]) (v2 := .bool true) (.inr rfl) rfl (rv_box HS (i := 0) rfl rfl ag27 rfl) rfl (P2.of (t := (.prod (.sl 72 (.prod (.sl 3 (.int .i64)) (.prod (.sl 3 (.int .i64)) (.prod (.int .i64) (.int .i64))))) (.sl 3 (.int .i64)))) (u := .bool) (cs := [v18, v20]) (ds := [.bool true]) (r := (y40.2.2, true)) (((((HS.add (t := .bool) (x := true) (cs := [.bool true]) rfl rfl).sel (G := [_, _, _, _, _]) [4] 0 rfl).sel (G := [_, _, _, _, _]) [3] 0 rfl).nsOwn).join) hs)
theorem c_slices_Equal_int_int {w : World} {s1 : List Int} {v_s1 : Value} {s2 : List Int} {v_s2 : Value} (r_s1 : Rd (.sl 3 (.int .i64)) (hp w) s1 [v_s1]) (r_s2 : Rd (.sl 3 (.int .i64)) (hp w) s2 [v_s2]) {r : Bool} (h : F_slices_Equal_int_int s1 s2 = some r) : Calls Try.prog 120 [v_s1, v_s2].toArray w (P1 .bool w r) := by
  unfold F_slices_Equal_int_int at h
  have HS := St.init w
  have hs := Sub.refl (hp w)
  refine calls_ex (n := 26) Try.func120 rfl Try.ntmps120 (Nat.le_of_ble_eq_true rfl) ?_
  refine ex_seq ?_
  refine ex_region ?_
  refine ro_lt (r_as (v := .bool false) rfl) rfl ?_
  refine RO.nil (nx ?_)
  refine ex_seq ?_
  refine ex_seq ?_
  refine ex_region ?_
  refine ro_lt (r_mv (v := v_s1) rfl) rfl ?_
  have b1 := (r_s1.sub HS.sub).big
  refine ro_lt (r_len (n := 1) (r_s1.sub HS.sub) sl25 rfl) rfl ?_
  refine ro_lt (r_mv (v := v_s2) rfl) rfl ?_
  have b2 := (r_s2.sub HS.sub).big
  refine ro_lt (r_len (n := 1) (r_s2.sub HS.sub) sl25 rfl) rfl ?_
  refine ro_lt (r_neq rfl rfl) rfl ?_
  refine RO.nil (nx ?_)
  replace h := ite_some h; rcases h with ⟨c3, h⟩ | ⟨c3, h⟩
  rotate_left
  · refine ex_if_t rfl (congrArg (!·) (decide_eq_false c3)) ?_
    refine ex_seq ?_
    refine ex_region ?_
    refine ro_lt (r_as (v := .bool false) rfl) rfl ?_
    refine RO.nil (nx ?_)
    obtain rfl := Option.some.inj h
    refine ex_ret (tq_ret ?_)
    exact ret1 (.inr rfl) rfl rfl (P1.of_flat HS hs rfl)
  refine ex_if_f rfl (congrArg (!·) (decide_eq_true c3)) ?_
  refine ex_skip (nx ?_)
  refine ex_seq ?_
  refine ex_seq ?_
  refine ex_region ?_
  refine ro_lt (r_mv (v := v_s1) rfl) rfl ?_
  refine ro_lt (r_len (n := 1) (r_s1.sub HS.sub) sl25 rfl) rfl ?_
  refine ro_lt (r_mv (v := iv 0) rfl) rfl ?_
  refine RO.nil (nx ?_)
  replace h := bind_some h; obtain ⟨y16, e17, h⟩ := h
  refine ex_lbr (fun (st : Int) s' w' => Has s' [(0, v_s1), (1, v_s2), (4, .bool false), (12, iv ((s1.length : Int))), (13, iv st)] ∧ St w (hp w) w' []) (fun r s' w' => FQ Try.prog Try.f120 26 (P1 .bool w r) .ret s' w') e17 ⟨⟨rfl, rfl, rfl, rfl, rfl, trivial⟩, HS⟩ ?_ ?_
  · rintro i9 c' s' w10 ⟨hs_, HS⟩ h
    rw [has_put hs_]; clear hs_
    replace h : F_slices_Equal_int_int_b1 s1 s2 i9 = some c' := h
    unfold F_slices_Equal_int_int_b1 at h
    refine ex_seq ?_
    refine ex_region ?_
    refine ro_lt (r_lss rfl rfl) rfl ?_
    refine RO.nil (nx ?_)
    refine ex_seq ?_
    replace h := ite_some h; rcases h with ⟨c11, h⟩ | ⟨c11, h⟩
    rotate_left
    · refine ex_if_f rfl (decide_eq_false c11) ?_
      refine ex_exit (tq_exit ?_)
      obtain rfl := Option.some.inj h
      exact lq_out ⟨⟨rfl, rfl, rfl, rfl, rfl, trivial⟩, HS⟩
    refine ex_if_t rfl (decide_eq_true c11) ?_
    refine ex_skip (nx ?_)
    refine ex_seq ?_
    refine ex_block ?_
    refine ex_seq ?_
    refine ex_region ?_
    refine ro_lt (r_mv (v := iv i9) rfl) rfl ?_
    refine ro_lt (r_as (v := iv i9) rfl) rfl ?_
    refine RO.nil (nx ?_)
    refine ex_seq ?_
    refine ex_dr (Mm (hp w) []) (fun _ => True) [0, 0, 3, 7, 0, 0, 48, 112, 255] [] (.op 0 (.op 1 (.op 2 (.op 3 (.op 4 (.op 5 (.op 6 (.op 7 (.op 8 .nil))))))))) mix (by kernel_rfl) (by kernel_rfl) ?_
    intro w12 hw hb; have HS := HS.ext hb; clear hw hb
    refine RT.lt rfl rfl rfl rfl (fun w' k => r_mv (v := v_s1) rfl) ?_
    refine RT.lt rfl rfl rfl rfl (fun w' k => r_mv (v := iv i9) rfl) ?_
    replace h := grd_some h; obtain ⟨g13, h⟩ := h
    refine RT.lt rfl rfl rfl rfl (fun w' k => r_ia (r_s1.sub HS.sub) sl25 g13.1 g13.2 rfl rfl) ?_
    refine RT.lt rfl rfl rfl rfl (fun w' k => r_ld ((r_s1.int g13.1 g13.2).kp HS.sub k.kp (mh rfl)) sc3 rfl) ?_
    refine RT.lt rfl rfl rfl rfl (fun w' k => r_mv (v := v_s2) rfl) ?_
    refine RT.lt rfl rfl rfl rfl (fun w' k => r_mv (v := iv i9) rfl) ?_
    replace h := grd_some h; obtain ⟨g14, h⟩ := h
    refine RT.lt rfl rfl rfl rfl (fun w' k => r_ia (r_s2.sub HS.sub) sl25 g14.1 g14.2 rfl rfl) ?_
    refine RT.lt rfl rfl rfl rfl (fun w' k => r_ld ((r_s2.int g14.1 g14.2).kp HS.sub k.kp (mh rfl)) sc3 rfl) ?_
    refine RT.lt rfl rfl rfl rfl (fun w' k => r_neq rfl rfl) ?_
    refine RT.nil (nx ?_)
    replace h := ite_some h; rcases h with ⟨c15, h⟩ | ⟨c15, h⟩
    · refine ex_if_f rfl (congrArg (!·) (decide_eq_true c15)) ?_
      refine ex_skip (blk_nx (nx ?_))
      refine ex_region ?_
      refine ro_lt (r_addw rfl rfl) rfl ?_
      refine ro_lt (r_mv (v := iv (wi (i9 + 1))) rfl) rfl ?_
      refine RO.nil ?_
      obtain rfl := Option.some.inj h
      exact lq_go ⟨⟨rfl, rfl, rfl, rfl, rfl, trivial⟩, HS⟩
    refine ex_if_t rfl (congrArg (!·) (decide_eq_false c15)) ?_
    refine ex_seq ?_
    refine ex_region ?_
    refine ro_lt (r_as (v := .bool false) rfl) rfl ?_
    refine RO.nil (nx ?_)
    obtain rfl := Option.some.inj h
    refine ex_ret (blk_ret (tq_ret (lq_ret ?_)))
    exact ret1 (.inr rfl) rfl rfl (P1.of_flat HS hs rfl)
  rcases y16 with r20 | y16
  · intro s' w' hR
    obtain rfl := Option.some.inj h
    exact (tq_ret hR)
  rintro s' w18 ⟨hs_, HS⟩
  rw [has_put hs_]; clear hs_
  refine (nx ?_)
  refine ex_seq ?_
  refine ex_region ?_
  refine ro_lt (r_as (v := .bool true) rfl) rfl ?_
  refine RO.nil (nx ?_)
  obtain rfl := Option.some.inj h
  refine ex_ret ?_
  exact ret1 (.inr rfl) rfl rfl (P1.of_flat HS hs rfl)
theorem c_slices_EqualFunc_Node_Node_Node_Node {w : World} {s1 : List (List Int × List Int × Int × Int)} {v_s1 : Value} {s2 : List (List Int × List Int × Int × Int)} {v_s2 : Value} {eq : (List Int × List Int × Int × Int) → (List Int × List Int × Int × Int) → Option Bool} {v_eq : Value} (r_s1 : Rd (.sl 72 (.prod (.sl 3 (.int .i64)) (.prod (.sl 3 (.int .i64)) (.prod (.int .i64) (.int .i64))))) (hp w) s1 [v_s1]) (r_s2 : Rd (.sl 72 (.prod (.sl 3 (.int .i64)) (.prod (.sl 3 (.int .i64)) (.prod (.int .i64) (.int .i64))))) (hp w) s2 [v_s2]) (k_eq : Fn2 Try.prog (hp w) (.prod (.sl 3 (.int .i64)) (.prod (.sl 3 (.int .i64)) (.prod (.int .i64) (.int .i64)))) (.prod (.sl 3 (.int .i64)) (.prod (.sl 3 (.int .i64)) (.prod (.int .i64) (.int .i64)))) .bool v_eq eq) {r : Bool} (h : F_slices_EqualFunc_Node_Node_Node_Node s1 s2 eq = some r) : Calls Try.prog 121 [v_s1, v_s2, v_eq].toArray w (P1 .bool w r) := by
  unfold F_slices_EqualFunc_Node_Node_Node_Node at h
  have HS := St.init w
  have hs := Sub.refl (hp w)
  refine calls_ex (n := 32) Try.func121 rfl Try.ntmps121 (Nat.le_of_ble_eq_true rfl) ?_
  refine ex_seq ?_
  refine ex_region ?_
  refine ro_lt (r_as (v := .bool false) rfl) rfl ?_
  refine RO.nil (nx ?_)
  refine ex_seq ?_
  refine ex_seq ?_
  refine ex_region ?_
  refine ro_lt (r_mv (v := v_s1) rfl) rfl ?_
  have b1 := (r_s1.sub HS.sub).big
  refine ro_lt (r_len (n := 4) (r_s1.sub HS.sub) sl24 rfl) rfl ?_
  refine ro_lt (r_mv (v := v_s2) rfl) rfl ?_
  have b2 := (r_s2.sub HS.sub).big
  refine ro_lt (r_len (n := 4) (r_s2.sub HS.sub) sl24 rfl) rfl ?_
  refine ro_lt (r_neq rfl rfl) rfl ?_
  refine RO.nil (nx ?_)
  replace h := ite_some h; rcases h with ⟨c3, h⟩ | ⟨c3, h⟩
  rotate_left
  · refine ex_if_t rfl (congrArg (!·) (decide_eq_false c3)) ?_
    refine ex_seq ?_
    refine ex_region ?_
    refine ro_lt (r_as (v := .bool false) rfl) rfl ?_
    refine RO.nil (nx ?_)
    obtain rfl := Option.some.inj h
    refine ex_ret (tq_ret ?_)
    exact ret1 (.inr rfl) rfl rfl (P1.of_flat HS hs rfl)
  refine ex_if_f rfl (congrArg (!·) (decide_eq_true c3)) ?_
  refine ex_skip (nx ?_)
  refine ex_seq ?_
  refine ex_seq ?_
  refine ex_region ?_
  refine ro_lt (r_mv (v := v_s1) rfl) rfl ?_
  refine ro_lt (r_len (n := 4) (r_s1.sub HS.sub) sl24 rfl) rfl ?_
  refine ro_lt (r_mv (v := iv 0) rfl) rfl ?_
  refine RO.nil (nx ?_)
  replace h := bind_some h; obtain ⟨y40, e41, h⟩ := h
  refine ex_lbr (fun (st : Int) s' w' => Has s' [(1, v_s2), (2, v_eq), (6, .bool false), (15, v_s1), (16, iv ((s1.length : Int))), (17, iv st)] ∧ St w (hp w) w' []) (fun r s' w' => FQ Try.prog Try.f121 32 (P1 .bool w r) .ret s' w') e41 ⟨⟨rfl, rfl, rfl, rfl, rfl, rfl, trivial⟩, HS⟩ ?_ ?_
  · rintro i9 c' s' w10 ⟨hs_, HS⟩ h
    rw [has_put hs_]; clear hs_
    replace h : F_slices_EqualFunc_Node_Node_Node_Node_b1 s1 s2 eq i9 = some c' := h
    unfold F_slices_EqualFunc_Node_Node_Node_Node_b1 at h
    refine ex_seq ?_
    refine ex_region ?_
    refine ro_lt (r_lss rfl rfl) rfl ?_
    refine RO.nil (nx ?_)
    refine ex_seq ?_
    replace h := ite_some h; rcases h with ⟨c11, h⟩ | ⟨c11, h⟩
    rotate_left
    · refine ex_if_f rfl (decide_eq_false c11) ?_
      refine ex_exit (tq_exit ?_)
      obtain rfl := Option.some.inj h
      exact lq_out ⟨⟨rfl, rfl, rfl, rfl, rfl, rfl, trivial⟩, HS⟩
    refine ex_if_t rfl (decide_eq_true c11) ?_
    refine ex_skip (nx ?_)
    refine ex_seq ?_
    refine ex_block ?_
    refine ex_seq ?_
    refine ex_region ?_
    refine ro_lt (r_mv (v := iv i9) rfl) rfl ?_
    replace h := grd_some h; obtain ⟨g12, h⟩ := h
    obtain ⟨_, q13, l14⟩ := r_s1.idx g12.1 g12.2
    obtain ⟨v15, v17, rfl, r16, r18⟩ := rd_K72 q13
    refine ro_lt (r_ia (r_s1.sub HS.sub) sl24 g12.1 g12.2 rfl rfl) rfl ?_
    refine ro_lt (r_lda (l14.sub HS.sub) ag72 rfl rfl) rfl ?_
    refine ro_hy (o_alloc HS (cs := [.slice none 0 0, .slice none 0 0, iv 0, iv 0]) ze72 rfl) rfl ?_
    rintro _ w20 ⟨g19, rfl, hb, HS⟩
    refine ro_lt (r_as (v := iv i9) rfl) rfl ?_
    refine ro_hy (o_str (off := 0) (vs := [v15, v17, iv ((((s1.getD i9.toNat (([] : List Int), ([] : List Int), 0, 0)).2).2).1), iv ((((s1.getD i9.toNat (([] : List Int), ([] : List Int), 0, 0)).2).2).2)]) (l' := [v15, v17, iv ((((s1.getD i9.toNat (([] : List Int), ([] : List Int), 0, 0)).2).2).1), iv ((((s1.getD i9.toNat (([] : List Int), ([] : List Int), 0, 0)).2).2).2)]) HS rfl rfl rfl st72 rfl rfl (pl (r16.sub HS.sub).pl (pl (r18.sub HS.sub).pl (pl rfl (pl rfl pl0)))) rfl) rfl ?_
    rintro _ w22 ⟨rfl, hk, HS⟩
    refine RO.nil (nx ?_)
    refine ex_seq ?_
    refine ex_region ?_
    refine ro_lt (r_mv (v := v_s2) rfl) rfl ?_
    refine ro_lt (r_mv (v := iv i9) rfl) rfl ?_
    replace h := grd_some h; obtain ⟨g24, h⟩ := h
    obtain ⟨_, q25, l26⟩ := r_s2.idx g24.1 g24.2
    obtain ⟨v27, v29, rfl, r28, r30⟩ := rd_K72 q25
    refine ro_lt (r_ia (r_s2.sub HS.sub) sl24 g24.1 g24.2 rfl rfl) rfl ?_
    refine ro_lt (r_lda (l26.sub HS.sub) ag72 rfl rfl) rfl ?_
    refine ro_hy (o_alloc HS (cs := [.slice none 0 0, .slice none 0 0, iv 0, iv 0]) ze72 rfl) rfl ?_
    rintro _ w32 ⟨g31, rfl, hb, HS⟩
    refine ro_hy (o_str (off := 0) (vs := [v27, v29, iv ((((s2.getD i9.toNat (([] : List Int), ([] : List Int), 0, 0)).2).2).1), iv ((((s2.getD i9.toNat (([] : List Int), ([] : List Int), 0, 0)).2).2).2)]) (l' := [v27, v29, iv ((((s2.getD i9.toNat (([] : List Int), ([] : List Int), 0, 0)).2).2).1), iv ((((s2.getD i9.toNat (([] : List Int), ([] : List Int), 0, 0)).2).2).2)]) HS rfl rfl rfl st72 rfl rfl (pl (r28.sub HS.sub).pl (pl (r30.sub HS.sub).pl (pl rfl (pl rfl pl0)))) rfl) rfl ?_
    rintro _ w34 ⟨rfl, hk, HS⟩
    refine RO.nil (nx ?_)
    refine ex_seq ?_
    refine ex_region ?_
    refine ro_lt (r_mv (v := v_eq) rfl) rfl ?_
    refine ro_lt (r_lda (HS.boxAt 1 rfl) ag72 rfl rfl) rfl ?_
    refine ro_lt (r_lda (HS.boxAt 0 rfl) ag72 rfl rfl) rfl ?_
    replace h := bind_some h; obtain ⟨y36, e37, h⟩ := h
    refine ro_hy (o_f2 HS rfl (k_eq.sub (Sub.refl _)) rfl rfl rfl (mk_K72 (r16.sub HS.sub) (r18.sub HS.sub)) (mk_K72 (r28.sub HS.sub) (r30.sub HS.sub)) e37) rfl ?_
    rintro _ w38 ⟨rfl, hb, HS⟩
    refine ro_lt (r_not rfl) rfl ?_
    refine RO.nil (nx ?_)
    replace h := ite_some h; rcases h with ⟨c39, h⟩ | ⟨c39, h⟩
    · refine ex_if_f rfl (congrArg (!·) (c39)) ?_
      refine ex_skip (blk_nx (nx ?_))
      refine ex_region ?_
      refine ro_lt (r_addw rfl rfl) rfl ?_
      refine ro_lt (r_mv (v := iv (wi (i9 + 1))) rfl) rfl ?_
      refine RO.nil ?_
      obtain rfl := Option.some.inj h
      exact lq_go ⟨⟨rfl, rfl, rfl, rfl, rfl, rfl, trivial⟩, (HS.sel (G := []) [] 2 rfl)⟩
    refine ex_if_t rfl (congrArg (!·) (bf c39)) ?_
    refine ex_seq ?_
    refine ex_region ?_
    refine ro_lt (r_as (v := .bool false) rfl) rfl ?_
    refine RO.nil (nx ?_)
    obtain rfl := Option.some.inj h
    refine ex_ret (blk_ret (tq_ret (lq_ret ?_)))
    exact ret1 (.inr rfl) rfl rfl (P1.of_flat HS hs rfl)
  rcases y40 with r44 | y40
  · intro s' w' hR
    obtain rfl := Option.some.inj h
    exact (tq_ret hR)
  rintro s' w42 ⟨hs_, HS⟩
  rw [has_put hs_]; clear hs_
  refine (nx ?_)
  refine ex_seq ?_
  refine ex_region ?_
  refine ro_lt (r_as (v := .bool true) rfl) rfl ?_
  refine RO.nil (nx ?_)
  obtain rfl := Option.some.inj h
  refine ex_ret ?_
  exact ret1 (.inr rfl) rfl rfl (P1.of_flat HS hs rfl)
theorem c_impl_EqualStructure_1 {w : World} {x : List Int × List Int × Int × Int} {v_x0 : Value} {v_x1 : Value} {y : List Int × List Int × Int × Int} {v_y0 : Value} {v_y1 : Value} (r_x0 : Rd (.sl 3 (.int .i64)) (hp w) x.1 [v_x0]) (r_x1 : Rd (.sl 3 (.int .i64)) (hp w) x.2.1 [v_x1]) (r_y0 : Rd (.sl 3 (.int .i64)) (hp w) y.1 [v_y0]) (r_y1 : Rd (.sl 3 (.int .i64)) (hp w) y.2.1 [v_y1]) {r : Bool} (h : F_impl_EqualStructure_1 x y = some r) : Calls Try.prog 122 [.agg #[v_x0, v_x1, iv x.2.2.1, iv x.2.2.2], .agg #[v_y0, v_y1, iv y.2.2.1, iv y.2.2.2]].toArray w (P1 .bool w r) := by
  unfold F_impl_EqualStructure_1 at h
  have HS := St.init w
  have hs := Sub.refl (hp w)
  refine calls_ex (n := 31) Try.func122 rfl Try.ntmps122 (Nat.le_of_ble_eq_true rfl) ?_
  refine ex_seq ?_
  refine ex_region ?_
  refine ro_hy (o_boxz HS (cs := [v_x0, v_x1, iv x.2.2.1, iv x.2.2.2]) rfl rfl) rfl ?_
  rintro _ w2 ⟨g1, H5, rfl, q3, l4, hb, HS⟩
  replace r_x0 := r_x0.sub q3
  replace r_x1 := r_x1.sub q3
  replace r_y0 := r_y0.sub q3
  replace r_y1 := r_y1.sub q3
  replace hs := hs.trans q3
  refine ro_hy (o_boxz HS (cs := [v_y0, v_y1, iv y.2.2.1, iv y.2.2.2]) rfl rfl) rfl ?_
  rintro _ w7 ⟨g6, H10, rfl, q8, l9, hb, HS⟩
  replace r_x0 := r_x0.sub q8
  replace r_x1 := r_x1.sub q8
  replace r_y0 := r_y0.sub q8
  replace r_y1 := r_y1.sub q8
  replace l4 := l4.sub q8
  replace hs := hs.trans q8
  refine ro_lt (r_as (v := .bool false) rfl) rfl ?_
  refine RO.nil (nx ?_)
  refine ex_seq ?_
  refine ex_region ?_
  refine ro_lt (r_fa (l4.sub HS.sub) fd72_0 rfl) rfl ?_
  refine ro_lt (r_ld ((l4.seg 0 1).sub HS.sub) sc25 rfl) rfl ?_
  refine ro_lt (r_fa (l9.sub HS.sub) fd72_0 rfl) rfl ?_
  refine ro_lt (r_ld ((l9.seg 0 1).sub HS.sub) sc25 rfl) rfl ?_
  replace h := bind_some h; obtain ⟨y11, e12, h⟩ := h
  refine ro_hy (o_cf (vs := [v_x0, v_y0]) HS rfl (c_slices_Equal_int_int (r_x0.sub HS.sub) (r_y0.sub HS.sub) e12) cf120 rfl) rfl ?_
  rintro _ w13 ⟨rfl, hb, HS⟩
  refine ro_lt (r_mv (v := .bool y11) rfl) rfl ?_
  replace h := ite_some h; rcases h with ⟨c14, h⟩ | ⟨c14, h⟩
  rotate_left
  · refine ro_off (sb (bf c14)) rfl rfl ?_
    refine ro_off (sb (bf c14)) rfl rfl ?_
    refine ro_off (sb (bf c14)) rfl rfl ?_
    refine ro_off (sb (bf c14)) rfl rfl ?_
    refine ro_off (sb (bf c14)) rfl rfl ?_
    refine ro_lt (r_pickf (v := .bool false) (bf c14) rfl rfl) rfl ?_
    refine ro_lt (r_mv (v := .bool false) rfl) rfl ?_
    refine ro_off (sb (rfl)) rfl rfl ?_
    refine ro_off (sb (rfl)) rfl rfl ?_
    refine ro_off (sb (rfl)) rfl rfl ?_
    refine ro_off (sb (rfl)) rfl rfl ?_
    refine ro_off (sb (rfl)) rfl rfl ?_
    refine ro_lt (r_pickf (v := .bool false) (rfl) rfl rfl) rfl ?_
    refine ro_lt (r_mv (v := .bool false) rfl) rfl ?_
    refine ro_off (sb (rfl)) rfl rfl ?_
    refine ro_off (sb (rfl)) rfl rfl ?_
    refine ro_off (sb (rfl)) rfl rfl ?_
    refine ro_off (sb (rfl)) rfl rfl ?_
    refine ro_off (sb (rfl)) rfl rfl ?_
    refine ro_lt (r_pickf (v := .bool false) (rfl) rfl rfl) rfl ?_
    refine ro_lt (r_as (v := .bool false) rfl) rfl ?_
    refine RO.nil (nx ?_)
    obtain rfl := Option.some.inj h
    refine ex_ret ?_
    exact ret1 (.inr rfl) rfl rfl (P1.of_flat HS hs rfl)
  refine ro_on (sb (c14)) ?_
  refine ro_lt (r_fa (l4.sub HS.sub) fd72_1 rfl) rfl ?_
  refine ro_on (sb (c14)) ?_
  refine ro_lt (r_ld ((l4.seg 1 1).sub HS.sub) sc25 rfl) rfl ?_
  refine ro_on (sb (c14)) ?_
  refine ro_lt (r_fa (l9.sub HS.sub) fd72_1 rfl) rfl ?_
  refine ro_on (sb (c14)) ?_
  refine ro_lt (r_ld ((l9.seg 1 1).sub HS.sub) sc25 rfl) rfl ?_
  replace h := bind_some h; obtain ⟨y15, e16, h⟩ := h
  refine ro_on (sb (c14)) ?_
  refine ro_hy (o_cf (vs := [v_x1, v_y1]) HS rfl (c_slices_Equal_int_int (r_x1.sub HS.sub) (r_y1.sub HS.sub) e16) cf120 rfl) rfl ?_
  rintro _ w17 ⟨rfl, hb, HS⟩
  refine ro_lt (r_pickt (v := .bool y15) (c14) rfl rfl) rfl ?_
  refine ro_lt (r_mv (v := .bool y15) rfl) rfl ?_
  replace h := ite_some h; rcases h with ⟨c18, h⟩ | ⟨c18, h⟩
  rotate_left
  · refine ro_off (sb (bf c18)) rfl rfl ?_
    refine ro_off (sb (bf c18)) rfl rfl ?_
    refine ro_off (sb (bf c18)) rfl rfl ?_
    refine ro_off (sb (bf c18)) rfl rfl ?_
    refine ro_off (sb (bf c18)) rfl rfl ?_
    refine ro_lt (r_pickf (v := .bool false) (bf c18) rfl rfl) rfl ?_
    refine ro_lt (r_mv (v := .bool false) rfl) rfl ?_
    refine ro_off (sb (rfl)) rfl rfl ?_
    refine ro_off (sb (rfl)) rfl rfl ?_
    refine ro_off (sb (rfl)) rfl rfl ?_
    refine ro_off (sb (rfl)) rfl rfl ?_
    refine ro_off (sb (rfl)) rfl rfl ?_
    refine ro_lt (r_pickf (v := .bool false) (rfl) rfl rfl) rfl ?_
    refine ro_lt (r_as (v := .bool false) rfl) rfl ?_
    refine RO.nil (nx ?_)
    obtain rfl := Option.some.inj h
    refine ex_ret ?_
    exact ret1 (.inr rfl) rfl rfl (P1.of_flat HS hs rfl)
  refine ro_on (sb (c18)) ?_
  refine ro_lt (r_fa (l4.sub HS.sub) fd72_2 rfl) rfl ?_
  refine ro_on (sb (c18)) ?_
  refine ro_lt (r_ld ((l4.seg 2 1).sub HS.sub) sc3 rfl) rfl ?_
  refine ro_on (sb (c18)) ?_
  refine ro_lt (r_fa (l9.sub HS.sub) fd72_2 rfl) rfl ?_
  refine ro_on (sb (c18)) ?_
  refine ro_lt (r_ld ((l9.seg 2 1).sub HS.sub) sc3 rfl) rfl ?_
  refine ro_on (sb (c18)) ?_
  refine ro_lt (r_eql rfl rfl) rfl ?_
  refine ro_lt (r_pickt (v := .bool ((decide (x.2.2.1 = y.2.2.1)))) (c18) rfl rfl) rfl ?_
  refine ro_lt (r_mv (v := .bool ((decide (x.2.2.1 = y.2.2.1)))) rfl) rfl ?_
  replace h := ite_some h; rcases h with ⟨c19, h⟩ | ⟨c19, h⟩
  rotate_left
  · refine ro_off (sb (decide_eq_false c19)) rfl rfl ?_
    refine ro_off (sb (decide_eq_false c19)) rfl rfl ?_
    refine ro_off (sb (decide_eq_false c19)) rfl rfl ?_
    refine ro_off (sb (decide_eq_false c19)) rfl rfl ?_
    refine ro_off (sb (decide_eq_false c19)) rfl rfl ?_
    refine ro_lt (r_pickf (v := .bool false) (decide_eq_false c19) rfl rfl) rfl ?_
    refine ro_lt (r_as (v := .bool false) rfl) rfl ?_
    refine RO.nil (nx ?_)
    obtain rfl := Option.some.inj h
    refine ex_ret ?_
    exact ret1 (.inr rfl) rfl rfl (P1.of_flat HS hs rfl)
  refine ro_on (sb (decide_eq_true c19)) ?_
  refine ro_lt (r_fa (l4.sub HS.sub) fd72_3 rfl) rfl ?_
  refine ro_on (sb (decide_eq_true c19)) ?_
  refine ro_lt (r_ld ((l4.seg 3 1).sub HS.sub) sc3 rfl) rfl ?_
  refine ro_on (sb (decide_eq_true c19)) ?_
  refine ro_lt (r_fa (l9.sub HS.sub) fd72_3 rfl) rfl ?_
  refine ro_on (sb (decide_eq_true c19)) ?_
  refine ro_lt (r_ld ((l9.seg 3 1).sub HS.sub) sc3 rfl) rfl ?_
  refine ro_on (sb (decide_eq_true c19)) ?_
  refine ro_lt (r_eql rfl rfl) rfl ?_
  refine ro_lt (r_pickt (v := .bool ((decide (x.2.2.2 = y.2.2.2)))) (decide_eq_true c19) rfl rfl) rfl ?_
  refine ro_lt (r_as (v := .bool ((decide (x.2.2.2 = y.2.2.2)))) rfl) rfl ?_
  refine RO.nil (nx ?_)
  obtain rfl := Option.some.inj h
  refine ex_ret ?_
  exact ret1 (.inr rfl) rfl rfl (P1.of_flat HS hs rfl)
theorem c_impl_EqualStructure {w : World} {a : (List (List Int × List Int × Int × Int)) × List Int} {v_a0 : Value} {v_a1 : Value} {b : (List (List Int × List Int × Int × Int)) × List Int} {v_b0 : Value} {v_b1 : Value} (r_a0 : Rd (.sl 72 (.prod (.sl 3 (.int .i64)) (.prod (.sl 3 (.int .i64)) (.prod (.int .i64) (.int .i64))))) (hp w) a.1 [v_a0]) (r_a1 : Rd (.sl 3 (.int .i64)) (hp w) a.2 [v_a1]) (r_b0 : Rd (.sl 72 (.prod (.sl 3 (.int .i64)) (.prod (.sl 3 (.int .i64)) (.prod (.int .i64) (.int .i64))))) (hp w) b.1 [v_b0]) (r_b1 : Rd (.sl 3 (.int .i64)) (hp w) b.2 [v_b1]) {r : Bool} (h : F_impl_EqualStructure a b = some r) : Calls Try.prog 72 [.agg #[v_a0, v_a1], .agg #[v_b0, v_b1]].toArray w (P1 .bool w r) := by
  unfold F_impl_EqualStructure at h
  have HS := St.init w
  have hs := Sub.refl (hp w)
  refine calls_ex (n := 17) Try.func72 rfl Try.ntmps72 (Nat.le_of_ble_eq_true rfl) ?_
  refine ex_seq ?_
  refine ex_region ?_
  refine ro_hy (o_boxz HS (cs := [v_a0, v_a1]) rfl rfl) rfl ?_
  rintro _ w2 ⟨g1, H5, rfl, q3, l4, hb, HS⟩
  replace r_a0 := r_a0.sub q3
  replace r_a1 := r_a1.sub q3
  replace r_b0 := r_b0.sub q3
  replace r_b1 := r_b1.sub q3
  replace hs := hs.trans q3
  refine ro_hy (o_boxz HS (cs := [v_b0, v_b1]) rfl rfl) rfl ?_
  rintro _ w7 ⟨g6, H10, rfl, q8, l9, hb, HS⟩
  replace r_a0 := r_a0.sub q8
  replace r_a1 := r_a1.sub q8
  replace r_b0 := r_b0.sub q8
  replace r_b1 := r_b1.sub q8
  replace l4 := l4.sub q8
  replace hs := hs.trans q8
  refine ro_lt (r_as (v := .bool false) rfl) rfl ?_
  refine RO.nil (nx ?_)
  refine ex_seq ?_
  refine ex_region ?_
  refine ro_lt (r_fa (l4.sub HS.sub) fd27_1 rfl) rfl ?_
  refine ro_lt (r_ld ((l4.seg 1 1).sub HS.sub) sc25 rfl) rfl ?_
  refine ro_lt (r_fa (l9.sub HS.sub) fd27_1 rfl) rfl ?_
  refine ro_lt (r_ld ((l9.seg 1 1).sub HS.sub) sc25 rfl) rfl ?_
  replace h := bind_some h; obtain ⟨y11, e12, h⟩ := h
  refine ro_hy (o_cf (vs := [v_a1, v_b1]) HS rfl (c_slices_Equal_int_int (r_a1.sub HS.sub) (r_b1.sub HS.sub) e12) cf120 rfl) rfl ?_
  rintro _ w13 ⟨rfl, hb, HS⟩
  refine ro_lt (r_mv (v := .bool y11) rfl) rfl ?_
  replace h := ite_some h; rcases h with ⟨c14, h⟩ | ⟨c14, h⟩
  rotate_left
  · refine ro_off (sb (bf c14)) rfl rfl ?_
    refine ro_off (sb (bf c14)) rfl rfl ?_
    refine ro_off (sb (bf c14)) rfl rfl ?_
    refine ro_off (sb (bf c14)) rfl rfl ?_
    refine ro_off (sb (bf c14)) rfl rfl ?_
    refine ro_lt (r_pickf (v := .bool false) (bf c14) rfl rfl) rfl ?_
    refine ro_lt (r_as (v := .bool false) rfl) rfl ?_
    refine RO.nil (nx ?_)
    obtain rfl := Option.some.inj h
    refine ex_ret ?_
    exact ret1 (.inr rfl) rfl rfl (P1.of_flat HS hs rfl)
  refine ro_on (sb (c14)) ?_
  refine ro_lt (r_fa (l4.sub HS.sub) fd27_0 rfl) rfl ?_
  refine ro_on (sb (c14)) ?_
  refine ro_lt (r_ld ((l4.seg 0 1).sub HS.sub) sc24 rfl) rfl ?_
  refine ro_on (sb (c14)) ?_
  refine ro_lt (r_fa (l9.sub HS.sub) fd27_0 rfl) rfl ?_
  refine ro_on (sb (c14)) ?_
  refine ro_lt (r_ld ((l9.seg 0 1).sub HS.sub) sc24 rfl) rfl ?_
  replace h := bind_some h; obtain ⟨y25, e26, h⟩ := h
  refine ro_on (sb (c14)) ?_
  refine ro_hy (o_cf (vs := [v_a0, v_b0, .func (.func 122) #[] #[]]) HS rfl (c_slices_EqualFunc_Node_Node_Node_Node (r_a0.sub HS.sub) (r_b0.sub HS.sub) ⟨122, [], [], rfl, cf122, by intro w' x15 x16 c17 c21 r' hs' r18 r22 hx; obtain ⟨_, _, rfl, r19, r20⟩ := rd_K72 r18; obtain ⟨_, _, rfl, r23, r24⟩ := rd_K72 r22; exact c_impl_EqualStructure_1 r19 r20 r23 r24 hx⟩ e26) cf121 rfl) rfl ?_
  rintro _ w27 ⟨rfl, hb, HS⟩
  refine ro_lt (r_pickt (v := .bool y25) (c14) rfl rfl) rfl ?_
  refine ro_lt (r_as (v := .bool y25) rfl) rfl ?_
  refine RO.nil (nx ?_)
  obtain rfl := Option.some.inj h
  refine ex_ret ?_
  exact ret1 (.inr rfl) rfl rfl (P1.of_flat HS hs rfl)
theorem c_impl_IsSharp {w : World} {vars : Int} {s : (List (List Int × List Int × Int × Int)) × List Int} {v_s0 : Value} {v_s1 : Value} (r_s0 : Rd (.sl 72 (.prod (.sl 3 (.int .i64)) (.prod (.sl 3 (.int .i64)) (.prod (.int .i64) (.int .i64))))) (hp w) s.1 [v_s0]) (r_s1 : Rd (.sl 3 (.int .i64)) (hp w) s.2 [v_s1]) {r : Bool} (h : F_impl_IsSharp vars s = some r) : Calls Try.prog 25 [iv vars, .agg #[v_s0, v_s1]].toArray w (P1 .bool w r) := by
  unfold F_impl_IsSharp at h
  have HS := St.init w
  have hs := Sub.refl (hp w)
  refine calls_ex (n := 19) Try.func25 rfl Try.ntmps25 (Nat.le_of_ble_eq_true rfl) ?_
  refine ex_seq ?_
  refine ex_region ?_
  refine ro_hy (o_boxz HS (cs := [v_s0, v_s1]) rfl rfl) rfl ?_
  rintro _ w2 ⟨g1, H5, rfl, q3, l4, hb, HS⟩
  replace r_s0 := r_s0.sub q3
  replace r_s1 := r_s1.sub q3
  replace hs := hs.trans q3
  refine ro_lt (r_as (v := .bool false) rfl) rfl ?_
  refine RO.nil (nx ?_)
  refine ex_seq ?_
  refine ex_region ?_
  refine ro_lt (r_mv (v := iv vars) rfl) rfl ?_
  refine ro_lt (r_lda (l4.sub HS.sub) ag27 rfl rfl) rfl ?_
  replace h := bind_some h; obtain ⟨y6, e7, h⟩ := h
  refine ro_hy (o_c2 (vs := [iv vars, .agg #[v_s0, v_s1]]) HS (c_impl_Coerce (r_s0.sub HS.sub) (r_s1.sub HS.sub) e7) cf28 rfl) rfl ?_
  rintro _ w8 ⟨cs9, cs10, rfl, hb, HS⟩
  replace HS := st_K27 HS
  obtain ⟨v12, v14, rfl, HS⟩ := HS
  obtain rfl := HS.flat 2 rfl rfl
  replace HS := (HS.sel (G := [_, _]) [0, 0] 1 rfl)
  refine ro_lt (r_mv rfl) rfl ?_
  refine ro_lt (r_ext (vs := [.agg #[v12, v14], .bool y6.2]) (i := 0) rfl rfl) rfl ?_
  refine ro_lt (r_ext (vs := [.agg #[v12, v14], .bool y6.2]) (i := 1) rfl rfl) rfl ?_
  refine ro_hy (o_alloc HS (cs := [.slice none 0 0, .slice none 0 0]) ze27 rfl) rfl ?_
  rintro _ w16 ⟨g15, rfl, hb, HS⟩
  refine ro_hy (o_str (off := 0) (vs := [v12, v14]) (l' := [v12, v14]) HS rfl rfl rfl st27 rfl rfl (pl (HS.rd 1 rfl).pl (pl (HS.rd 2 rfl).pl pl0)) rfl) rfl ?_
  rintro _ w18 ⟨rfl, hk, HS⟩
  refine ro_lt (r_as (v := .bool y6.2) rfl) rfl ?_
  refine RO.nil (nx ?_)
  refine ex_seq ?_
  refine ex_region ?_
  refine ro_lt (r_mv (v := .bool y6.2) rfl) rfl ?_
  refine ro_lt (r_mv (v := .bool y6.2) rfl) rfl ?_
  replace h := ite_some h; rcases h with ⟨c20, h⟩ | ⟨c20, h⟩
  rotate_left
  · refine ro_off (sb (bf c20)) rfl rfl ?_
    refine ro_off (sb (bf c20)) rfl rfl ?_
    refine ro_off (sb (bf c20)) rfl rfl ?_
    refine ro_lt (r_pickf (v := .bool false) (bf c20) rfl rfl) rfl ?_
    refine ro_lt (r_as (v := .bool false) rfl) rfl ?_
    refine RO.nil (nx ?_)
    obtain rfl := Option.some.inj h
    refine ex_ret ?_
    exact ret1 (.inr rfl) rfl rfl (P1.of_flat HS hs rfl)
  refine ro_on (sb (c20)) ?_
  refine ro_lt (r_lda (HS.boxAt 0 rfl) ag27 rfl rfl) rfl ?_
  refine ro_on (sb (c20)) ?_
  refine ro_lt (r_lda (l4.sub HS.sub) ag27 rfl rfl) rfl ?_
  replace h := bind_some h; obtain ⟨y21, e22, h⟩ := h
  refine ro_on (sb (c20)) ?_
  refine ro_hy (o_cf (vs := [.agg #[v12, v14], .agg #[v_s0, v_s1]]) HS rfl (c_impl_EqualStructure (HS.rd 1 rfl) (HS.rd 2 rfl) (r_s0.sub HS.sub) (r_s1.sub HS.sub) e22) cf72 rfl) rfl ?_
  rintro _ w23 ⟨rfl, hb, HS⟩
  refine ro_lt (r_pickt (v := .bool y21) (c20) rfl rfl) rfl ?_
  refine ro_lt (r_as (v := .bool y21) rfl) rfl ?_
  refine RO.nil (nx ?_)
  obtain rfl := Option.some.inj h
  refine ex_ret ?_
  exact ret1 (.inr rfl) rfl rfl (P1.of_flat HS hs rfl)
theorem c_laws_eqIntS {w : World} {a : List Int} {v_a : Value} {b : List Int} {v_b : Value} (r_a : Rd (.sl 3 (.int .i64)) (hp w) a [v_a]) (r_b : Rd (.sl 3 (.int .i64)) (hp w) b [v_b]) {r : Bool} (h : F_laws_eqIntS a b = some r) : Calls Try.prog 74 [v_a, v_b].toArray w (P1 .bool w r) := by
  unfold F_laws_eqIntS at h
  have HS := St.init w
  have hs := Sub.refl (hp w)
  refine calls_ex (n := 26) Try.func74 rfl Try.ntmps74 (Nat.le_of_ble_eq_true rfl) ?_
  refine ex_seq ?_
  refine ex_region ?_
  refine ro_lt (r_as (v := .bool false) rfl) rfl ?_
  refine RO.nil (nx ?_)
  refine ex_seq ?_
  refine ex_seq ?_
  refine ex_region ?_
  refine ro_lt (r_mv (v := v_a) rfl) rfl ?_
  have b1 := (r_a.sub HS.sub).big
  refine ro_lt (r_len (n := 1) (r_a.sub HS.sub) sl25 rfl) rfl ?_
  refine ro_lt (r_mv (v := v_b) rfl) rfl ?_
  have b2 := (r_b.sub HS.sub).big
  refine ro_lt (r_len (n := 1) (r_b.sub HS.sub) sl25 rfl) rfl ?_
  refine ro_lt (r_neq rfl rfl) rfl ?_
  refine RO.nil (nx ?_)
  replace h := ite_some h; rcases h with ⟨c3, h⟩ | ⟨c3, h⟩
  rotate_left
  · refine ex_if_t rfl (congrArg (!·) (decide_eq_false c3)) ?_
    refine ex_seq ?_
    refine ex_region ?_
    refine ro_lt (r_as (v := .bool false) rfl) rfl ?_
    refine RO.nil (nx ?_)
    obtain rfl := Option.some.inj h
    refine ex_ret (tq_ret ?_)
    exact ret1 (.inr rfl) rfl rfl (P1.of_flat HS hs rfl)
  refine ex_if_f rfl (congrArg (!·) (decide_eq_true c3)) ?_
  refine ex_skip (nx ?_)
  refine ex_seq ?_
  refine ex_seq ?_
  refine ex_region ?_
  refine ro_lt (r_as (v := iv 0) rfl) rfl ?_
  refine RO.nil (nx ?_)
  replace h := bind_some h; obtain ⟨y16, e17, h⟩ := h
  refine ex_lbr (fun (st : Int) s' w' => Has s' [(0, v_a), (1, v_b), (4, .bool false), (5, iv st)] ∧ St w (hp w) w' []) (fun r s' w' => FQ Try.prog Try.f74 26 (P1 .bool w r) .ret s' w') e17 ⟨⟨rfl, rfl, rfl, rfl, trivial⟩, HS⟩ ?_ ?_
  · rintro i_9 c' s' w10 ⟨hs_, HS⟩ h
    rw [has_put hs_]; clear hs_
    replace h : F_laws_eqIntS_b1 a b i_9 = some c' := h
    unfold F_laws_eqIntS_b1 at h
    refine ex_seq ?_
    refine ex_seq ?_
    refine ex_region ?_
    refine ro_lt (r_mv (v := iv i_9) rfl) rfl ?_
    refine ro_lt (r_mv (v := v_a) rfl) rfl ?_
    refine ro_lt (r_len (n := 1) (r_a.sub HS.sub) sl25 rfl) rfl ?_
    refine ro_lt (r_lss rfl rfl) rfl ?_
    refine RO.nil (nx ?_)
    replace h := ite_some h; rcases h with ⟨c11, h⟩ | ⟨c11, h⟩
    rotate_left
    · refine ex_if_f rfl (decide_eq_false c11) ?_
      refine ex_exit (tq_exit ?_)
      obtain rfl := Option.some.inj h
      exact lq_out ⟨⟨rfl, rfl, rfl, rfl, trivial⟩, HS⟩
    refine ex_if_t rfl (decide_eq_true c11) ?_
    refine ex_skip (nx ?_)
    refine ex_seq ?_
    refine ex_block ?_
    refine ex_seq ?_
    refine ex_dr (Mm (hp w) []) (fun _ => True) [0, 0, 3, 7, 0, 0, 48, 112, 255] [] (.op 0 (.op 1 (.op 2 (.op 3 (.op 4 (.op 5 (.op 6 (.op 7 (.op 8 .nil))))))))) mix (by kernel_rfl) (by kernel_rfl) ?_
    intro w12 hw hb; have HS := HS.ext hb; clear hw hb
    refine RT.lt rfl rfl rfl rfl (fun w' k => r_mv (v := v_a) rfl) ?_
    refine RT.lt rfl rfl rfl rfl (fun w' k => r_mv (v := iv i_9) rfl) ?_
    replace h := grd_some h; obtain ⟨g13, h⟩ := h
    refine RT.lt rfl rfl rfl rfl (fun w' k => r_ia (r_a.sub HS.sub) sl25 g13.1 g13.2 rfl rfl) ?_
    refine RT.lt rfl rfl rfl rfl (fun w' k => r_ld ((r_a.int g13.1 g13.2).kp HS.sub k.kp (mh rfl)) sc3 rfl) ?_
    refine RT.lt rfl rfl rfl rfl (fun w' k => r_mv (v := v_b) rfl) ?_
    refine RT.lt rfl rfl rfl rfl (fun w' k => r_mv (v := iv i_9) rfl) ?_
    replace h := grd_some h; obtain ⟨g14, h⟩ := h
    refine RT.lt rfl rfl rfl rfl (fun w' k => r_ia (r_b.sub HS.sub) sl25 g14.1 g14.2 rfl rfl) ?_
    refine RT.lt rfl rfl rfl rfl (fun w' k => r_ld ((r_b.int g14.1 g14.2).kp HS.sub k.kp (mh rfl)) sc3 rfl) ?_
    refine RT.lt rfl rfl rfl rfl (fun w' k => r_neq rfl rfl) ?_
    refine RT.nil (nx ?_)
    replace h := ite_some h; rcases h with ⟨c15, h⟩ | ⟨c15, h⟩
    rotate_left
    · refine ex_if_t rfl (congrArg (!·) (decide_eq_false c15)) ?_
      refine ex_seq ?_
      refine ex_region ?_
      refine ro_lt (r_as (v := .bool false) rfl) rfl ?_
      refine RO.nil (nx ?_)
      obtain rfl := Option.some.inj h
      refine ex_ret (blk_ret (tq_ret (lq_ret ?_)))
      exact ret1 (.inr rfl) rfl rfl (P1.of_flat HS hs rfl)
    refine ex_if_f rfl (congrArg (!·) (decide_eq_true c15)) ?_
    refine ex_skip (blk_nx (nx ?_))
    refine ex_region ?_
    refine ro_lt (r_mv (v := iv i_9) rfl) rfl ?_
    refine ro_lt (r_addw rfl rfl) rfl ?_
    refine ro_lt (r_as (v := iv (wi (i_9 + 1))) rfl) rfl ?_
    refine RO.nil ?_
    obtain rfl := Option.some.inj h
    exact lq_go ⟨⟨rfl, rfl, rfl, rfl, trivial⟩, HS⟩
  rcases y16 with r20 | y16
  · intro s' w' hR
    obtain rfl := Option.some.inj h
    exact (tq_ret hR)
  rintro s' w18 ⟨hs_, HS⟩
  rw [has_put hs_]; clear hs_
  refine (nx ?_)
  refine ex_seq ?_
  refine ex_region ?_
  refine ro_lt (r_as (v := .bool true) rfl) rfl ?_
  refine RO.nil (nx ?_)
  obtain rfl := Option.some.inj h
  refine ex_ret ?_
  exact ret1 (.inr rfl) rfl rfl (P1.of_flat HS hs rfl)
theorem c_laws_eqNode {w : World} {a : List Int × List Int × Int × Int} {v_a0 : Value} {v_a1 : Value} {b : List Int × List Int × Int × Int} {v_b0 : Value} {v_b1 : Value} (r_a0 : Rd (.sl 3 (.int .i64)) (hp w) a.1 [v_a0]) (r_a1 : Rd (.sl 3 (.int .i64)) (hp w) a.2.1 [v_a1]) (r_b0 : Rd (.sl 3 (.int .i64)) (hp w) b.1 [v_b0]) (r_b1 : Rd (.sl 3 (.int .i64)) (hp w) b.2.1 [v_b1]) {r : Bool} (h : F_laws_eqNode a b = some r) : Calls Try.prog 123 [.agg #[v_a0, v_a1, iv a.2.2.1, iv a.2.2.2], .agg #[v_b0, v_b1, iv b.2.2.1, iv b.2.2.2]].toArray w (P1 .bool w r) := by
  unfold F_laws_eqNode at h
  have HS := St.init w
  have hs := Sub.refl (hp w)
  refine calls_ex (n := 27) Try.func123 rfl Try.ntmps123 (Nat.le_of_ble_eq_true rfl) ?_
  refine ex_seq ?_
  refine ex_region ?_
  refine ro_hy (o_boxz HS (cs := [v_a0, v_a1, iv a.2.2.1, iv a.2.2.2]) rfl rfl) rfl ?_
  rintro _ w2 ⟨g1, H5, rfl, q3, l4, hb, HS⟩
  replace r_a0 := r_a0.sub q3
  replace r_a1 := r_a1.sub q3
  replace r_b0 := r_b0.sub q3
  replace r_b1 := r_b1.sub q3
  replace hs := hs.trans q3
  refine ro_hy (o_boxz HS (cs := [v_b0, v_b1, iv b.2.2.1, iv b.2.2.2]) rfl rfl) rfl ?_
  rintro _ w7 ⟨g6, H10, rfl, q8, l9, hb, HS⟩
  replace r_a0 := r_a0.sub q8
  replace r_a1 := r_a1.sub q8
  replace r_b0 := r_b0.sub q8
  replace r_b1 := r_b1.sub q8
  replace l4 := l4.sub q8
  replace hs := hs.trans q8
  refine ro_lt (r_as (v := .bool false) rfl) rfl ?_
  refine RO.nil (nx ?_)
  refine ex_seq ?_
  refine ex_seq ?_
  refine ex_region ?_
  refine ro_lt (r_fa (l4.sub HS.sub) fd72_0 rfl) rfl ?_
  refine ro_lt (r_ld ((l4.seg 0 1).sub HS.sub) sc25 rfl) rfl ?_
  refine ro_lt (r_fa (l9.sub HS.sub) fd72_0 rfl) rfl ?_
  refine ro_lt (r_ld ((l9.seg 0 1).sub HS.sub) sc25 rfl) rfl ?_
  replace h := bind_some h; obtain ⟨y11, e12, h⟩ := h
  refine ro_hy (o_cf (vs := [v_a0, v_b0]) HS rfl (c_laws_eqIntS (r_a0.sub HS.sub) (r_b0.sub HS.sub) e12) cf74 rfl) rfl ?_
  rintro _ w13 ⟨rfl, hb, HS⟩
  refine ro_lt (r_not rfl) rfl ?_
  refine RO.nil (nx ?_)
  replace h := ite_some h; rcases h with ⟨c14, h⟩ | ⟨c14, h⟩
  rotate_left
  · refine ex_if_t rfl (congrArg (!·) (bf c14)) ?_
    refine ex_seq ?_
    refine ex_region ?_
    refine ro_lt (r_as (v := .bool false) rfl) rfl ?_
    refine RO.nil (nx ?_)
    obtain rfl := Option.some.inj h
    refine ex_ret (tq_ret ?_)
    exact ret1 (.inr rfl) rfl rfl (P1.of_flat HS hs rfl)
  refine ex_if_f rfl (congrArg (!·) (c14)) ?_
  refine ex_skip (nx ?_)
  refine ex_seq ?_
  refine ex_seq ?_
  refine ex_region ?_
  refine ro_lt (r_fa (l4.sub HS.sub) fd72_1 rfl) rfl ?_
  refine ro_lt (r_ld ((l4.seg 1 1).sub HS.sub) sc25 rfl) rfl ?_
  refine ro_lt (r_fa (l9.sub HS.sub) fd72_1 rfl) rfl ?_
  refine ro_lt (r_ld ((l9.seg 1 1).sub HS.sub) sc25 rfl) rfl ?_
  replace h := bind_some h; obtain ⟨y15, e16, h⟩ := h
  refine ro_hy (o_cf (vs := [v_a1, v_b1]) HS rfl (c_laws_eqIntS (r_a1.sub HS.sub) (r_b1.sub HS.sub) e16) cf74 rfl) rfl ?_
  rintro _ w17 ⟨rfl, hb, HS⟩
  refine ro_lt (r_not rfl) rfl ?_
  refine RO.nil (nx ?_)
  replace h := ite_some h; rcases h with ⟨c18, h⟩ | ⟨c18, h⟩
  rotate_left
  · refine ex_if_t rfl (congrArg (!·) (bf c18)) ?_
    refine ex_seq ?_
    refine ex_region ?_
    refine ro_lt (r_as (v := .bool false) rfl) rfl ?_
    refine RO.nil (nx ?_)
    obtain rfl := Option.some.inj h
    refine ex_ret (tq_ret ?_)
    exact ret1 (.inr rfl) rfl rfl (P1.of_flat HS hs rfl)
  refine ex_if_f rfl (congrArg (!·) (c18)) ?_
  refine ex_skip (nx ?_)
  refine ex_seq ?_
  refine ex_seq ?_
  refine ex_region ?_
  refine ro_lt (r_fa (l4.sub HS.sub) fd72_2 rfl) rfl ?_
  refine ro_lt (r_ld ((l4.seg 2 1).sub HS.sub) sc3 rfl) rfl ?_
  refine ro_lt (r_fa (l9.sub HS.sub) fd72_2 rfl) rfl ?_
  refine ro_lt (r_ld ((l9.seg 2 1).sub HS.sub) sc3 rfl) rfl ?_
  refine ro_lt (r_neq rfl rfl) rfl ?_
  refine RO.nil (nx ?_)
  replace h := ite_some h; rcases h with ⟨c19, h⟩ | ⟨c19, h⟩
  rotate_left
  · refine ex_if_t rfl (congrArg (!·) (decide_eq_false c19)) ?_
    refine ex_seq ?_
    refine ex_region ?_
    refine ro_lt (r_as (v := .bool false) rfl) rfl ?_
    refine RO.nil (nx ?_)
    obtain rfl := Option.some.inj h
    refine ex_ret (tq_ret ?_)
    exact ret1 (.inr rfl) rfl rfl (P1.of_flat HS hs rfl)
  refine ex_if_f rfl (congrArg (!·) (decide_eq_true c19)) ?_
  refine ex_skip (nx ?_)
  refine ex_seq ?_
  refine ex_seq ?_
  refine ex_region ?_
  refine ro_lt (r_fa (l4.sub HS.sub) fd72_3 rfl) rfl ?_
  refine ro_lt (r_ld ((l4.seg 3 1).sub HS.sub) sc3 rfl) rfl ?_
  refine ro_lt (r_fa (l9.sub HS.sub) fd72_3 rfl) rfl ?_
  refine ro_lt (r_ld ((l9.seg 3 1).sub HS.sub) sc3 rfl) rfl ?_
  refine ro_lt (r_neq rfl rfl) rfl ?_
  refine RO.nil (nx ?_)
  replace h := ite_some h; rcases h with ⟨c20, h⟩ | ⟨c20, h⟩
  rotate_left
  · refine ex_if_t rfl (congrArg (!·) (decide_eq_false c20)) ?_
    refine ex_seq ?_
    refine ex_region ?_
    refine ro_lt (r_as (v := .bool false) rfl) rfl ?_
    refine RO.nil (nx ?_)
    obtain rfl := Option.some.inj h
    refine ex_ret (tq_ret ?_)
    exact ret1 (.inr rfl) rfl rfl (P1.of_flat HS hs rfl)
  refine ex_if_f rfl (congrArg (!·) (decide_eq_true c20)) ?_
  refine ex_skip (nx ?_)
  refine ex_seq ?_
  refine ex_region ?_
  refine ro_lt (r_as (v := .bool true) rfl) rfl ?_
  refine RO.nil (nx ?_)
  obtain rfl := Option.some.inj h
  refine ex_ret ?_
  exact ret1 (.inr rfl) rfl rfl (P1.of_flat HS hs rfl)
theorem c_laws_eqNodeS {w : World} {a : List (List Int × List Int × Int × Int)} {v_a : Value} {b : List (List Int × List Int × Int × Int)} {v_b : Value} (r_a : Rd (.sl 72 (.prod (.sl 3 (.int .i64)) (.prod (.sl 3 (.int .i64)) (.prod (.int .i64) (.int .i64))))) (hp w) a [v_a]) (r_b : Rd (.sl 72 (.prod (.sl 3 (.int .i64)) (.prod (.sl 3 (.int .i64)) (.prod (.int .i64) (.int .i64))))) (hp w) b [v_b]) {r : Bool} (h : F_laws_eqNodeS a b = some r) : Calls Try.prog 73 [v_a, v_b].toArray w (P1 .bool w r) := by
  unfold F_laws_eqNodeS at h
  have HS := St.init w
  have hs := Sub.refl (hp w)
  refine calls_ex (n := 27) Try.func73 rfl Try.ntmps73 (Nat.le_of_ble_eq_true rfl) ?_
  refine ex_seq ?_
  refine ex_region ?_
  refine ro_lt (r_as (v := .bool false) rfl) rfl ?_
  refine RO.nil (nx ?_)
  refine ex_seq ?_
  refine ex_seq ?_
  refine ex_region ?_
  refine ro_lt (r_mv (v := v_a) rfl) rfl ?_
  have b1 := (r_a.sub HS.sub).big
  refine ro_lt (r_len (n := 4) (r_a.sub HS.sub) sl24 rfl) rfl ?_
  refine ro_lt (r_mv (v := v_b) rfl) rfl ?_
  have b2 := (r_b.sub HS.sub).big
  refine ro_lt (r_len (n := 4) (r_b.sub HS.sub) sl24 rfl) rfl ?_
  refine ro_lt (r_neq rfl rfl) rfl ?_
  refine RO.nil (nx ?_)
  replace h := ite_some h; rcases h with ⟨c3, h⟩ | ⟨c3, h⟩
  rotate_left
  · refine ex_if_t rfl (congrArg (!·) (decide_eq_false c3)) ?_
    refine ex_seq ?_
    refine ex_region ?_
    refine ro_lt (r_as (v := .bool false) rfl) rfl ?_
    refine RO.nil (nx ?_)
    obtain rfl := Option.some.inj h
    refine ex_ret (tq_ret ?_)
    exact ret1 (.inr rfl) rfl rfl (P1.of_flat HS hs rfl)
  refine ex_if_f rfl (congrArg (!·) (decide_eq_true c3)) ?_
  refine ex_skip (nx ?_)
  refine ex_seq ?_
  refine ex_seq ?_
  refine ex_region ?_
  refine ro_lt (r_as (v := iv 0) rfl) rfl ?_
  refine RO.nil (nx ?_)
  replace h := bind_some h; obtain ⟨y31, e32, h⟩ := h
  refine ex_lbr (fun (st : Int) s' w' => Has s' [(0, v_a), (1, v_b), (4, .bool false), (5, iv st)] ∧ St w (hp w) w' []) (fun r s' w' => FQ Try.prog Try.f73 27 (P1 .bool w r) .ret s' w') e32 ⟨⟨rfl, rfl, rfl, rfl, trivial⟩, HS⟩ ?_ ?_
  · rintro i_9 c' s' w10 ⟨hs_, HS⟩ h
    rw [has_put hs_]; clear hs_
    replace h : F_laws_eqNodeS_b1 a b i_9 = some c' := h
    unfold F_laws_eqNodeS_b1 at h
    refine ex_seq ?_
    refine ex_seq ?_
    refine ex_region ?_
    refine ro_lt (r_mv (v := iv i_9) rfl) rfl ?_
    refine ro_lt (r_mv (v := v_a) rfl) rfl ?_
    refine ro_lt (r_len (n := 4) (r_a.sub HS.sub) sl24 rfl) rfl ?_
    refine ro_lt (r_lss rfl rfl) rfl ?_
    refine RO.nil (nx ?_)
    replace h := ite_some h; rcases h with ⟨c11, h⟩ | ⟨c11, h⟩
    rotate_left
    · refine ex_if_f rfl (decide_eq_false c11) ?_
      refine ex_exit (tq_exit ?_)
      obtain rfl := Option.some.inj h
      exact lq_out ⟨⟨rfl, rfl, rfl, rfl, trivial⟩, HS⟩
    refine ex_if_t rfl (decide_eq_true c11) ?_
    refine ex_skip (nx ?_)
    refine ex_seq ?_
    refine ex_block ?_
    refine ex_seq ?_
    refine ex_dr (Mm (hp w) []) (fun _ => True) [0, 0, 3, 7, 0, 0, 48, 112, 255, 511] [8] (.op 0 (.op 1 (.op 2 (.op 3 (.op 4 (.op 5 (.op 6 (.op 7 (.op 8 (.op 9 .nil)))))))))) mix (by kernel_rfl) (by kernel_rfl) ?_
    intro w12 hw hb; have HS := HS.ext hb; clear hw hb
    refine RT.lt rfl rfl rfl rfl (fun w' k => r_mv (v := v_a) rfl) ?_
    refine RT.lt rfl rfl rfl rfl (fun w' k => r_mv (v := iv i_9) rfl) ?_
    replace h := grd_some h; obtain ⟨g13, h⟩ := h
    obtain ⟨_, q14, l15⟩ := r_a.idx g13.1 g13.2
    obtain ⟨v16, v18, rfl, r17, r19⟩ := rd_K72 q14
    refine RT.lt rfl rfl rfl rfl (fun w' k => r_ia (r_a.sub HS.sub) sl24 g13.1 g13.2 rfl rfl) ?_
    refine RT.lt rfl rfl rfl rfl (fun w' k => r_lda (l15.kp HS.sub k.kp (mh rfl)) ag72 rfl rfl) ?_
    refine RT.lt rfl rfl rfl rfl (fun w' k => r_mv (v := v_b) rfl) ?_
    refine RT.lt rfl rfl rfl rfl (fun w' k => r_mv (v := iv i_9) rfl) ?_
    replace h := grd_some h; obtain ⟨g20, h⟩ := h
    obtain ⟨_, q21, l22⟩ := r_b.idx g20.1 g20.2
    obtain ⟨v23, v25, rfl, r24, r26⟩ := rd_K72 q21
    refine RT.lt rfl rfl rfl rfl (fun w' k => r_ia (r_b.sub HS.sub) sl24 g20.1 g20.2 rfl rfl) ?_
    refine RT.lt rfl rfl rfl rfl (fun w' k => r_lda (l22.kp HS.sub k.kp (mh rfl)) ag72 rfl rfl) ?_
    replace h := bind_some h; obtain ⟨y27, e28, h⟩ := h
    refine RT.hy rfl rfl rfl rfl rfl (o_cf (vs := [.agg #[v16, v18, iv ((((a.getD i_9.toNat (([] : List Int), ([] : List Int), 0, 0)).2).2).1), iv ((((a.getD i_9.toNat (([] : List Int), ([] : List Int), 0, 0)).2).2).2)], .agg #[v23, v25, iv ((((b.getD i_9.toNat (([] : List Int), ([] : List Int), 0, 0)).2).2).1), iv ((((b.getD i_9.toNat (([] : List Int), ([] : List Int), 0, 0)).2).2).2)]]) HS rfl (c_laws_eqNode (r17.sub HS.sub) (r19.sub HS.sub) (r24.sub HS.sub) (r26.sub HS.sub) e28) cf123 rfl) (fun _ _ ⟨_, hb, _⟩ => km_below hb (fun _ => trivial)) ?_
    rintro _ w29 ⟨rfl, hb, HS⟩
    refine RT.lt rfl rfl rfl rfl (fun w' k => r_not rfl) ?_
    refine RT.nil (nx ?_)
    replace h := ite_some h; rcases h with ⟨c30, h⟩ | ⟨c30, h⟩
    rotate_left
    · refine ex_if_t rfl (congrArg (!·) (bf c30)) ?_
      refine ex_seq ?_
      refine ex_region ?_
      refine ro_lt (r_as (v := .bool false) rfl) rfl ?_
      refine RO.nil (nx ?_)
      obtain rfl := Option.some.inj h
      refine ex_ret (blk_ret (tq_ret (lq_ret ?_)))
      exact ret1 (.inr rfl) rfl rfl (P1.of_flat HS hs rfl)
    refine ex_if_f rfl (congrArg (!·) (c30)) ?_
    refine ex_skip (blk_nx (nx ?_))
    refine ex_region ?_
    refine ro_lt (r_mv (v := iv i_9) rfl) rfl ?_
    refine ro_lt (r_addw rfl rfl) rfl ?_
    refine ro_lt (r_as (v := iv (wi (i_9 + 1))) rfl) rfl ?_
    refine RO.nil ?_
    obtain rfl := Option.some.inj h
    exact lq_go ⟨⟨rfl, rfl, rfl, rfl, trivial⟩, HS⟩
  rcases y31 with r35 | y31
  · intro s' w' hR
    obtain rfl := Option.some.inj h
    exact (tq_ret hR)
  rintro s' w33 ⟨hs_, HS⟩
  rw [has_put hs_]; clear hs_
  refine (nx ?_)
  refine ex_seq ?_
  refine ex_region ?_
  refine ro_lt (r_as (v := .bool true) rfl) rfl ?_
  refine RO.nil (nx ?_)
  obtain rfl := Option.some.inj h
  refine ex_ret ?_
  exact ret1 (.inr rfl) rfl rfl (P1.of_flat HS hs rfl)
theorem c_laws_eqStructure {w : World} {a : (List (List Int × List Int × Int × Int)) × List Int} {v_a0 : Value} {v_a1 : Value} {b : (List (List Int × List Int × Int × Int)) × List Int} {v_b0 : Value} {v_b1 : Value} (r_a0 : Rd (.sl 72 (.prod (.sl 3 (.int .i64)) (.prod (.sl 3 (.int .i64)) (.prod (.int .i64) (.int .i64))))) (hp w) a.1 [v_a0]) (r_a1 : Rd (.sl 3 (.int .i64)) (hp w) a.2 [v_a1]) (r_b0 : Rd (.sl 72 (.prod (.sl 3 (.int .i64)) (.prod (.sl 3 (.int .i64)) (.prod (.int .i64) (.int .i64))))) (hp w) b.1 [v_b0]) (r_b1 : Rd (.sl 3 (.int .i64)) (hp w) b.2 [v_b1]) {r : Bool} (h : F_laws_eqStructure a b = some r) : Calls Try.prog 26 [.agg #[v_a0, v_a1], .agg #[v_b0, v_b1]].toArray w (P1 .bool w r) := by
  unfold F_laws_eqStructure at h
  have HS := St.init w
  have hs := Sub.refl (hp w)
  refine calls_ex (n := 17) Try.func26 rfl Try.ntmps26 (Nat.le_of_ble_eq_true rfl) ?_
  refine ex_seq ?_
  refine ex_region ?_
  refine ro_hy (o_boxz HS (cs := [v_a0, v_a1]) rfl rfl) rfl ?_
  rintro _ w2 ⟨g1, H5, rfl, q3, l4, hb, HS⟩
  replace r_a0 := r_a0.sub q3
  replace r_a1 := r_a1.sub q3
  replace r_b0 := r_b0.sub q3
  replace r_b1 := r_b1.sub q3
  replace hs := hs.trans q3
  refine ro_hy (o_boxz HS (cs := [v_b0, v_b1]) rfl rfl) rfl ?_
  rintro _ w7 ⟨g6, H10, rfl, q8, l9, hb, HS⟩
  replace r_a0 := r_a0.sub q8
  replace r_a1 := r_a1.sub q8
  replace r_b0 := r_b0.sub q8
  replace r_b1 := r_b1.sub q8
  replace l4 := l4.sub q8
  replace hs := hs.trans q8
  refine ro_lt (r_as (v := .bool false) rfl) rfl ?_
  refine RO.nil (nx ?_)
  refine ex_seq ?_
  refine ex_seq ?_
  refine ex_region ?_
  refine ro_lt (r_fa (l4.sub HS.sub) fd27_0 rfl) rfl ?_
  refine ro_lt (r_ld ((l4.seg 0 1).sub HS.sub) sc24 rfl) rfl ?_
  refine ro_lt (r_fa (l9.sub HS.sub) fd27_0 rfl) rfl ?_
  refine ro_lt (r_ld ((l9.seg 0 1).sub HS.sub) sc24 rfl) rfl ?_
  replace h := bind_some h; obtain ⟨y11, e12, h⟩ := h
  refine ro_hy (o_cf (vs := [v_a0, v_b0]) HS rfl (c_laws_eqNodeS (r_a0.sub HS.sub) (r_b0.sub HS.sub) e12) cf73 rfl) rfl ?_
  rintro _ w13 ⟨rfl, hb, HS⟩
  refine ro_lt (r_not rfl) rfl ?_
  refine RO.nil (nx ?_)
  replace h := ite_some h; rcases h with ⟨c14, h⟩ | ⟨c14, h⟩
  rotate_left
  · refine ex_if_t rfl (congrArg (!·) (bf c14)) ?_
    refine ex_seq ?_
    refine ex_region ?_
    refine ro_lt (r_as (v := .bool false) rfl) rfl ?_
    refine RO.nil (nx ?_)
    obtain rfl := Option.some.inj h
    refine ex_ret (tq_ret ?_)
    exact ret1 (.inr rfl) rfl rfl (P1.of_flat HS hs rfl)
  refine ex_if_f rfl (congrArg (!·) (c14)) ?_
  refine ex_skip (nx ?_)
  refine ex_seq ?_
  refine ex_seq ?_
  refine ex_region ?_
  refine ro_lt (r_fa (l4.sub HS.sub) fd27_1 rfl) rfl ?_
  refine ro_lt (r_ld ((l4.seg 1 1).sub HS.sub) sc25 rfl) rfl ?_
  refine ro_lt (r_fa (l9.sub HS.sub) fd27_1 rfl) rfl ?_
  refine ro_lt (r_ld ((l9.seg 1 1).sub HS.sub) sc25 rfl) rfl ?_
  replace h := bind_some h; obtain ⟨y15, e16, h⟩ := h
  refine ro_hy (o_cf (vs := [v_a1, v_b1]) HS rfl (c_laws_eqIntS (r_a1.sub HS.sub) (r_b1.sub HS.sub) e16) cf74 rfl) rfl ?_
  rintro _ w17 ⟨rfl, hb, HS⟩
  refine ro_lt (r_not rfl) rfl ?_
  refine RO.nil (nx ?_)
  replace h := ite_some h; rcases h with ⟨c18, h⟩ | ⟨c18, h⟩
  rotate_left
  · refine ex_if_t rfl (congrArg (!·) (bf c18)) ?_
    refine ex_seq ?_
    refine ex_region ?_
    refine ro_lt (r_as (v := .bool false) rfl) rfl ?_
    refine RO.nil (nx ?_)
    obtain rfl := Option.some.inj h
    refine ex_ret (tq_ret ?_)
    exact ret1 (.inr rfl) rfl rfl (P1.of_flat HS hs rfl)
  refine ex_if_f rfl (congrArg (!·) (c18)) ?_
  refine ex_skip (nx ?_)
  refine ex_seq ?_
  refine ex_region ?_
  refine ro_lt (r_as (v := .bool true) rfl) rfl ?_
  refine RO.nil (nx ?_)
  obtain rfl := Option.some.inj h
  refine ex_ret ?_
  exact ret1 (.inr rfl) rfl rfl (P1.of_flat HS hs rfl)
theorem c_laws_FnExactIsSharp {w : World} {aVars : Int} {aS : (List (List Int × List Int × Int × Int)) × List Int} {v_aS0 : Value} {v_aS1 : Value} (r_aS0 : Rd (.sl 123 (.prod (.sl 3 (.int .i64)) (.prod (.sl 3 (.int .i64)) (.prod (.int .i64) (.int .i64))))) (hp w) aS.1 [v_aS0]) (r_aS1 : Rd (.sl 3 (.int .i64)) (hp w) aS.2 [v_aS1]) {r : Bool} (h : F_laws_FnExactIsSharp aVars aS = some r) : Calls Try.prog 4 [iv aVars, .agg #[v_aS0, v_aS1]].toArray w (P1 .bool w r) := by
  unfold F_laws_FnExactIsSharp at h
  have HS := St.init w
  have hs := Sub.refl (hp w)
  refine calls_ex (n := 31) Try.func4 rfl Try.ntmps4 (Nat.le_of_ble_eq_true rfl) ?_
  refine ex_seq ?_
  refine ex_region ?_
  refine ro_hy (o_boxz HS (cs := [v_aS0, v_aS1]) rfl rfl) rfl ?_
  rintro _ w2 ⟨g1, H5, rfl, q3, l4, hb, HS⟩
  replace r_aS0 := r_aS0.sub q3
  replace r_aS1 := r_aS1.sub q3
  replace hs := hs.trans q3
  refine ro_lt (r_as (v := .bool false) rfl) rfl ?_
  refine RO.nil (nx ?_)
  refine ex_seq ?_
  refine ex_region ?_
  refine ro_lt (r_as (v := iv 1048576) rfl) rfl ?_
  refine RO.nil (nx ?_)
  refine ex_seq ?_
  refine ex_region ?_
  refine ro_lt (r_lda (l4.sub HS.sub) ag43 rfl rfl) rfl ?_
  refine ro_lt (r_mv (v := iv 1048576) rfl) rfl ?_
  replace h := bind_some h; obtain ⟨y6, e7, h⟩ := h
  refine ro_hy (o_cf (vs := [.agg #[v_aS0, v_aS1], iv 1048576]) HS rfl (c_laws_szStructure (r_aS0.sub HS.sub) (r_aS1.sub HS.sub) e7) cf22 rfl) rfl ?_
  rintro _ w8 ⟨rfl, hb, HS⟩
  refine ro_lt (r_as (v := iv y6) rfl) rfl ?_
  refine RO.nil (nx ?_)
  refine ex_seq ?_
  refine ex_seq ?_
  refine ex_region ?_
  refine ro_lt (r_mv (v := iv y6) rfl) rfl ?_
  refine ro_lt (r_lss rfl rfl) rfl ?_
  refine RO.nil (nx ?_)
  replace h := ite_some h; rcases h with ⟨c9, h⟩ | ⟨c9, h⟩
  · refine ex_if_t rfl (decide_eq_true c9) ?_
    refine ex_seq ?_
    refine ex_region ?_
    refine ro_lt (r_as (v := .bool true) rfl) rfl ?_
    refine RO.nil (nx ?_)
    obtain rfl := Option.some.inj h
    refine ex_ret (tq_ret ?_)
    exact ret1 (.inr rfl) rfl rfl (P1.of_flat HS hs rfl)
  refine ex_if_f rfl (decide_eq_false c9) ?_
  refine ex_skip (nx ?_)
  refine ex_seq ?_
  refine ex_region ?_
  refine ro_lt (r_mv (v := iv aVars) rfl) rfl ?_
  refine ro_lt (r_lda (l4.sub HS.sub) ag43 rfl rfl) rfl ?_
  replace h := bind_some h; obtain ⟨y10, e11, h⟩ := h
  refine ro_hy (o_c1 (vs := [.agg #[v_aS0, v_aS1]]) HS (c_laws_toStructure (r_aS0.sub HS.sub) (r_aS1.sub HS.sub) e11) cf24 rfl) rfl ?_
  rintro _ w12 ⟨cs13, rfl, hb, HS⟩
  replace HS := st_K27 HS
  obtain ⟨v15, v17, rfl, HS⟩ := HS
  replace h := bind_some h; obtain ⟨y18, e19, h⟩ := h
  refine ro_hy (o_cf (vs := [iv aVars, .agg #[v15, v17]]) HS rfl (c_spec_IsSharp (HS.rd 0 rfl) (HS.rd 1 rfl) e19) cf23 rfl) rfl ?_
  rintro _ w20 ⟨rfl, hb, HS⟩
  refine ro_lt (r_as (v := .bool y18) rfl) rfl ?_
  refine RO.nil (nx ?_)
  refine ex_seq ?_
  refine ex_region ?_
  refine ro_lt (r_lda (l4.sub HS.sub) ag43 rfl rfl) rfl ?_
  replace h := bind_some h; obtain ⟨y21, e22, h⟩ := h
  refine ro_hy (o_c1 (vs := [.agg #[v_aS0, v_aS1]]) HS (c_laws_toStructure (r_aS0.sub HS.sub) (r_aS1.sub HS.sub) e22) cf24 rfl) rfl ?_
  rintro _ w23 ⟨cs24, rfl, hb, HS⟩
  replace HS := st_K27 HS
  obtain ⟨v26, v28, rfl, HS⟩ := HS
  refine ro_hy (o_alloc HS (cs := [.slice none 0 0, .slice none 0 0]) ze27 rfl) rfl ?_
  rintro _ w30 ⟨g29, rfl, hb, HS⟩
  refine ro_hy (o_str (off := 0) (vs := [v26, v28]) (l' := [v26, v28]) HS rfl rfl rfl st27 rfl rfl (pl (HS.rd 1 rfl).pl (pl (HS.rd 2 rfl).pl pl0)) rfl) rfl ?_
  rintro _ w32 ⟨rfl, hk, HS⟩
  refine RO.nil (nx ?_)
  refine ex_seq ?_
  refine ex_region ?_
  refine ro_lt (r_mv (v := iv aVars) rfl) rfl ?_
  refine ro_lt (r_lda (HS.boxAt 0 rfl) ag27 rfl rfl) rfl ?_
  replace h := bind_some h; obtain ⟨y34, e35, h⟩ := h
  refine ro_hy (o_cf (vs := [iv aVars, .agg #[v26, v28]]) HS rfl (c_impl_IsSharp (HS.rd 1 rfl) (HS.rd 2 rfl) e35) cf25 rfl) rfl ?_
  rintro _ w36 ⟨rfl, hb, HS⟩
  refine ro_lt (r_as (v := .bool y34) rfl) rfl ?_
  refine RO.nil (nx ?_)
  refine ex_seq ?_
  refine ex_seq ?_
  refine ex_region ?_
  refine ro_lt (r_mv (v := .bool y34) rfl) rfl ?_
  refine ro_lt (r_mv (v := .bool y18) rfl) rfl ?_
  refine ro_lt (r_bneq rfl rfl bo4) rfl ?_
  refine RO.nil (nx ?_)
  replace h := ite_some h; rcases h with ⟨c37, h⟩ | ⟨c37, h⟩
  rotate_left
  · refine ex_if_t rfl (congrArg (!·) (decide_eq_false c37)) ?_
    refine ex_seq ?_
    refine ex_region ?_
    refine ro_lt (r_as (v := .bool false) rfl) rfl ?_
    refine RO.nil (nx ?_)
    obtain rfl := Option.some.inj h
    refine ex_ret (tq_ret ?_)
    exact ret1 (.inr rfl) rfl rfl (P1.of_flat HS hs rfl)
  refine ex_if_f rfl (congrArg (!·) (decide_eq_true c37)) ?_
  refine ex_skip (nx ?_)
  refine ex_seq ?_
  refine ex_seq ?_
  refine ex_dr (Mm H5 [0]) (fun _ => True) [0, 0, 2, 7, 15] [2, 3] (.op 0 (.op 1 (.op 2 (.op 3 (.op 4 .nil))))) mix (by kernel_rfl) (by kernel_rfl) ?_
  intro w38 hw hb; have HS := HS.ext hb; clear hw hb
  refine RT.lt rfl rfl rfl rfl (fun w' k => r_lda ((HS.boxAt 0 rfl).k0 (Sub.refl _) (k.kp.none rfl)) ag27 rfl rfl) ?_
  refine RT.lt rfl rfl rfl rfl (fun w' k => r_lda (l4.kp HS.sub k.kp (mh rfl)) ag43 rfl rfl) ?_
  replace h := bind_some h; obtain ⟨y39, e40, h⟩ := h
  refine RT.hy rfl rfl rfl rfl rfl (o_c1 (vs := [.agg #[v_aS0, v_aS1]]) HS (c_laws_toStructure (r_aS0.sub HS.sub) (r_aS1.sub HS.sub) e40) cf24 rfl) (fun _ _ ⟨_, _, hb, _⟩ => km_below hb (fun _ => trivial)) ?_
  rintro _ w41 ⟨cs42, rfl, hb, HS⟩
  replace HS := st_K27 HS
  obtain ⟨v44, v46, rfl, HS⟩ := HS
  replace h := bind_some h; obtain ⟨y47, e48, h⟩ := h
  refine RT.hy rfl rfl rfl rfl rfl (o_cf (vs := [.agg #[v26, v28], .agg #[v44, v46]]) HS rfl (c_laws_eqStructure (HS.rd 3 rfl) (HS.rd 4 rfl) (HS.rd 0 rfl) (HS.rd 1 rfl) e48) cf26 rfl) (fun _ _ ⟨_, hb, _⟩ => km_below hb (fun _ => trivial)) ?_
  rintro _ w49 ⟨rfl, hb, HS⟩
  refine RT.lt rfl rfl rfl rfl (fun w' k => r_not rfl) ?_
  refine RT.nil (nx ?_)
  replace h := ite_some h; rcases h with ⟨c50, h⟩ | ⟨c50, h⟩
  rotate_left
  · refine ex_if_t rfl (congrArg (!·) (bf c50)) ?_
    refine ex_seq ?_
    refine ex_region ?_
    refine ro_lt (r_as (v := .bool false) rfl) rfl ?_
    refine RO.nil (nx ?_)
    obtain rfl := Option.some.inj h
    refine ex_ret (tq_ret ?_)
    exact ret1 (.inr rfl) rfl rfl (P1.of_flat HS hs rfl)
  refine ex_if_f rfl (congrArg (!·) (c50)) ?_
  refine ex_skip (nx ?_)
  refine ex_seq ?_
  refine ex_region ?_
  refine ro_lt (r_as (v := .bool true) rfl) rfl ?_
  refine RO.nil (nx ?_)
  obtain rfl := Option.some.inj h
  refine ex_ret ?_
  exact ret1 (.inr rfl) rfl rfl (P1.of_flat HS hs rfl)
theorem c_laws_markIntS {w : World} {H : Hp} {FR : List Ob} {a : List Int} {v_a0 : Value} {k : Int} (HS : St w H w (.ow (.sl 3 (.int .i64)) a [v_a0] :: FR)) {r : Int × List Int} (h : F_laws_markIntS a k = some r) : Calls Try.prog 84 [v_a0, iv k].toArray w ((fun r => PS (iv r.1) fun w' => St w H w' (.ow (.sl 3 (.int .i64)) r.2 [v_a0] :: FR) : (Int × List Int) → Ending → World → Prop) r) := by
  unfold F_laws_markIntS at h
  refine calls_ex (n := 19) Try.func84 rfl Try.ntmps84 (Nat.le_of_ble_eq_true rfl) ?_
  refine ex_seq ?_
  refine ex_region ?_
  refine ro_lt (r_as (v := iv 0) rfl) rfl ?_
  refine RO.nil (nx ?_)
  refine ex_seq ?_
  refine ex_seq ?_
  refine ex_region ?_
  refine ro_lt (r_as (v := iv 0) rfl) rfl ?_
  refine RO.nil (nx ?_)
  replace h := bind_some h; obtain ⟨y18, e19, h⟩ := h
  refine ex_lbo (fun (st : (List Int) × Int × Int) s' w' => Has s' [(0, v_a0), (1, iv st.2.1), (4, iv 0), (5, iv st.2.2)] ∧ St w H w' (.ow (.sl 3 (.int .i64)) st.1 [v_a0] :: FR)) e19 ⟨⟨rfl, rfl, rfl, rfl, trivial⟩, HS⟩ ?_ ?_
  · rintro ⟨a_9, k_10, i_11⟩ c' s' w12 ⟨hs_, HS⟩ h
    rw [has_put hs_]; clear hs_
    try dsimp only at HS
    replace h : F_laws_markIntS_b1 a_9 k_10 i_11 = some c' := h
    unfold F_laws_markIntS_b1 at h
    refine ex_seq ?_
    refine ex_seq ?_
    refine ex_region ?_
    refine ro_lt (r_mv (v := iv i_11) rfl) rfl ?_
    refine ro_lt (r_mv (v := v_a0) rfl) rfl ?_
    have b13 := (HS.rd 0 rfl).big
    refine ro_lt (r_len (n := 1) (HS.rd 0 rfl) sl25 rfl) rfl ?_
    refine ro_lt (r_lss rfl rfl) rfl ?_
    refine RO.nil (nx ?_)
    replace h := ite_some h; rcases h with ⟨c14, h⟩ | ⟨c14, h⟩
    rotate_left
    · refine ex_if_f rfl (decide_eq_false c14) ?_
      refine ex_exit (tq_exit ?_)
      obtain rfl := Option.some.inj h
      exact lq_out ⟨⟨rfl, rfl, rfl, rfl, trivial⟩, HS⟩
    refine ex_if_t rfl (decide_eq_true c14) ?_
    refine ex_skip (nx ?_)
    refine ex_seq ?_
    refine ex_block ?_
    refine ex_seq ?_
    refine ex_region ?_
    refine ro_lt (r_mv (v := v_a0) rfl) rfl ?_
    refine ro_lt (r_mv (v := iv i_11) rfl) rfl ?_
    refine ro_lt (r_mv (v := iv k_10) rfl) rfl ?_
    replace h := grd_some h; obtain ⟨g15, h⟩ := h
    refine ro_lt (r_ia (HS.rd 0 rfl) sl25 g15.1 g15.2 rfl rfl) rfl ?_
    refine ro_hy (o_set (x' := k_10) HS rfl g15.1 g15.2 st3 rfl rfl) rfl ?_
    rintro _ w16 ⟨rfl, hk, HS⟩
    refine RO.nil (nx ?_)
    refine ex_region ?_
    refine ro_lt (r_mv (v := iv k_10) rfl) rfl ?_
    refine ro_lt (r_addw rfl rfl) rfl ?_
    refine ro_lt (r_as (v := iv (wi (k_10 + 1))) rfl) rfl ?_
    refine RO.nil (blk_nx (nx ?_))
    refine ex_region ?_
    refine ro_lt (r_mv (v := iv i_11) rfl) rfl ?_
    refine ro_lt (r_addw rfl rfl) rfl ?_
    refine ro_lt (r_as (v := iv (wi (i_11 + 1))) rfl) rfl ?_
    refine RO.nil ?_
    obtain rfl := Option.some.inj h
    exact lq_go ⟨⟨rfl, rfl, rfl, rfl, trivial⟩, HS⟩
  rintro s' w20 ⟨hs_, HS⟩
  rw [has_put hs_]; clear hs_
  refine (nx ?_)
  refine ex_seq ?_
  refine ex_region ?_
  refine ro_lt (r_mv (v := iv y18.2.1) rfl) rfl ?_
  refine ro_lt (r_as (v := iv y18.2.1) rfl) rfl ?_
  refine RO.nil (nx ?_)
  obtain rfl := Option.some.inj h
  refine ex_ret ?_
  exact ret1 (.inr rfl) rfl rfl ⟨rfl, HS⟩
theorem c_laws_markNodeS {w : World} {H : Hp} {FR : List Ob} {a : List (List Int × List Int × Int × Int)} {v_a0 : Value} {k : Int} (HS : St w H w (.ow (.sl 72 (.prod (.sl 3 (.int .i64)) (.prod (.sl 3 (.int .i64)) (.prod (.int .i64) (.int .i64))))) a [v_a0] :: FR)) {r : Int × List (List Int × List Int × Int × Int)} (h : F_laws_markNodeS a k = some r) : Calls Try.prog 83 [v_a0, iv k].toArray w ((fun r => PS (iv r.1) fun w' => St w H w' (.ow (.sl 72 (.prod (.sl 3 (.int .i64)) (.prod (.sl 3 (.int .i64)) (.prod (.int .i64) (.int .i64))))) r.2 [v_a0] :: FR) : (Int × List (List Int × List Int × Int × Int)) → Ending → World → Prop) r) := by
  unfold F_laws_markNodeS at h
  refine calls_ex (n := 41) Try.func83 rfl Try.ntmps83 (Nat.le_of_ble_eq_true rfl) ?_
  refine ex_seq ?_
  refine ex_region ?_
  refine ro_lt (r_as (v := iv 0) rfl) rfl ?_
  refine RO.nil (nx ?_)
  refine ex_seq ?_
  refine ex_seq ?_
  refine ex_region ?_
  refine ro_lt (r_as (v := iv 0) rfl) rfl ?_
  refine RO.nil (nx ?_)
  replace h := bind_some h; obtain ⟨y68, e69, h⟩ := h
  refine ex_lbo (fun (st : (List (List Int × List Int × Int × Int)) × Int × Int) s' w' => Has s' [(0, v_a0), (1, iv st.2.1), (4, iv 0), (5, iv st.2.2)] ∧ St w H w' (.ow (.sl 72 (.prod (.sl 3 (.int .i64)) (.prod (.sl 3 (.int .i64)) (.prod (.int .i64) (.int .i64))))) st.1 [v_a0] :: FR)) e69 ⟨⟨rfl, rfl, rfl, rfl, trivial⟩, HS⟩ ?_ ?_
  · rintro ⟨a_9, k_10, i_11⟩ c' s' w12 ⟨hs_, HS⟩ h
    rw [has_put hs_]; clear hs_
    try dsimp only at HS
    replace h : F_laws_markNodeS_b1 a_9 k_10 i_11 = some c' := h
    unfold F_laws_markNodeS_b1 at h
    refine ex_seq ?_
    refine ex_seq ?_
    refine ex_region ?_
    refine ro_lt (r_mv (v := iv i_11) rfl) rfl ?_
    refine ro_lt (r_mv (v := v_a0) rfl) rfl ?_
    have b13 := (HS.rd 0 rfl).big
    refine ro_lt (r_len (n := 4) (HS.rd 0 rfl) sl24 rfl) rfl ?_
    refine ro_lt (r_lss rfl rfl) rfl ?_
    refine RO.nil (nx ?_)
    replace h := ite_some h; rcases h with ⟨c14, h⟩ | ⟨c14, h⟩
    rotate_left
    · refine ex_if_f rfl (decide_eq_false c14) ?_
      refine ex_exit (tq_exit ?_)
      obtain rfl := Option.some.inj h
      exact lq_out ⟨⟨rfl, rfl, rfl, rfl, trivial⟩, HS⟩
    refine ex_if_t rfl (decide_eq_true c14) ?_
    refine ex_skip (nx ?_)
    refine ex_seq ?_
    refine ex_block ?_
    refine ex_seq ?_
    refine ex_region ?_
    refine ro_lt (r_mv (v := v_a0) rfl) rfl ?_
    refine ro_lt (r_mv (v := iv i_11) rfl) rfl ?_
    replace h := grd_some h; obtain ⟨g15, h⟩ := h
    obtain ⟨_, q16, l17⟩ := (HS.rd 0 rfl).idx g15.1 g15.2
    obtain ⟨v18, v20, rfl, r19, r21⟩ := rd_K72 q16
    refine ro_lt (r_ia (HS.rd 0 rfl) sl24 g15.1 g15.2 rfl rfl) rfl ?_
    refine ro_lt (r_fa l17 fd72_0 rfl) rfl ?_
    refine ro_lt (r_ld (l17.seg 0 1) sc25 rfl) rfl ?_
    refine ro_lt (r_mv (v := iv k_10) rfl) rfl ?_
    replace h := bind_some h; obtain ⟨y25, e26, h⟩ := h
    refine ro_hy (o_cs (vs := [v18, iv k_10]) (c_laws_markIntS (sp_K72 (HS.opnA (t := (.prod (.sl 3 (.int .i64)) (.prod (.sl 3 (.int .i64)) (.prod (.int .i64) (.int .i64))))) g15.1 g15.2 l17 rfl)).self e26) cf84 rfl) rfl ?_
    rintro _ w27 ⟨rfl, HS2⟩
    replace HS := (sp_K72 (HS.opnA (t := (.prod (.sl 3 (.int .i64)) (.prod (.sl 3 (.int .i64)) (.prod (.int .i64) (.int .i64))))) g15.1 g15.2 l17 rfl)).from HS2
    replace HS := ((((((((HS.add (t := (.int .i64)) (x := (((a_9.getD i_11.toNat (([] : List Int), ([] : List Int), 0, 0)).2).2).2) rfl rfl).add (t := (.int .i64)) (x := (((a_9.getD i_11.toNat (([] : List Int), ([] : List Int), 0, 0)).2).2).1) rfl rfl).join).sel (G := _ :: _ :: _ :: _ :: FR) [2] 0 rfl).join).sel (G := _ :: _ :: _ :: FR) [1] 0 rfl).join)).cls
    refine ro_lt (r_as (v := iv y25.1) rfl) rfl ?_
    refine RO.nil (nx ?_)
    refine ex_seq ?_
    refine ex_region ?_
    refine ro_lt (r_mv (v := v_a0) rfl) rfl ?_
    refine ro_lt (r_mv (v := iv i_11) rfl) rfl ?_
    obtain ⟨_, q34, l35⟩ := (HS.rd 0 rfl).idx g15.1 (by simpa using g15.2)
    obtain ⟨v36, v38, rfl, r37, r39⟩ := rd_K72 q34
    refine ro_lt (r_ia (HS.rd 0 rfl) sl24 g15.1 (by simpa using g15.2) rfl rfl) rfl ?_
    refine ro_lt (r_fa l35 fd72_1 rfl) rfl ?_
    refine ro_lt (r_ld (l35.seg 1 1) sc25 rfl) rfl ?_
    refine ro_lt (r_mv (v := iv y25.1) rfl) rfl ?_
    replace h := bind_some h; obtain ⟨y43, e44, h⟩ := h
    refine ro_hy (o_cs (vs := [v38, iv y25.1]) (c_laws_markIntS ((sp_K72 (HS.opnA (t := (.prod (.sl 3 (.int .i64)) (.prod (.sl 3 (.int .i64)) (.prod (.int .i64) (.int .i64))))) g15.1 (by simpa using g15.2) l35 rfl)).sel (G := _ :: _ :: _ :: FR) [1] 0 rfl).self e44) cf84 rfl) rfl ?_
    rintro _ w45 ⟨rfl, HS2⟩
    replace HS := ((sp_K72 (HS.opnA (t := (.prod (.sl 3 (.int .i64)) (.prod (.sl 3 (.int .i64)) (.prod (.int .i64) (.int .i64))))) g15.1 (by simpa using g15.2) l35 rfl)).sel (G := _ :: _ :: _ :: FR) [1] 0 rfl).from HS2
    replace HS := ((((((((HS.add (t := (.int .i64)) (x := ((((a_9.set i_11.toNat ((y25.2, ((a_9.getD i_11.toNat (([] : List Int), ([] : List Int), 0, 0)).2).1, (((a_9.getD i_11.toNat (([] : List Int), ([] : List Int), 0, 0)).2).2).1, (((a_9.getD i_11.toNat (([] : List Int), ([] : List Int), 0, 0)).2).2).2))).getD i_11.toNat (([] : List Int), ([] : List Int), 0, 0)).2).2).2) rfl rfl).add (t := (.int .i64)) (x := ((((a_9.set i_11.toNat ((y25.2, ((a_9.getD i_11.toNat (([] : List Int), ([] : List Int), 0, 0)).2).1, (((a_9.getD i_11.toNat (([] : List Int), ([] : List Int), 0, 0)).2).2).1, (((a_9.getD i_11.toNat (([] : List Int), ([] : List Int), 0, 0)).2).2).2))).getD i_11.toNat (([] : List Int), ([] : List Int), 0, 0)).2).2).1) rfl rfl).join).sel (G := _ :: _ :: _ :: _ :: FR) [1] 0 rfl).join).sel (G := _ :: _ :: _ :: FR) [1] 0 rfl).join)).cls
    refine ro_lt (r_as (v := iv y43.1) rfl) rfl ?_
    refine RO.nil (nx ?_)
    refine ex_seq ?_
    refine ex_region ?_
    refine ro_lt (r_mv (v := v_a0) rfl) rfl ?_
    refine ro_lt (r_mv (v := iv i_11) rfl) rfl ?_
    refine ro_lt (r_mv (v := iv y43.1) rfl) rfl ?_
    obtain ⟨_, q52, l53⟩ := (HS.rd 0 rfl).idx g15.1 (by simpa using g15.2)
    obtain ⟨v54, v56, rfl, r55, r57⟩ := rd_K72 q52
    refine ro_lt (r_ia (HS.rd 0 rfl) sl24 g15.1 (by simpa using g15.2) rfl rfl) rfl ?_
    refine ro_lt (r_fa l53 fd72_2 rfl) rfl ?_
    refine ro_hy (o_setf (t := (.prod (.sl 3 (.int .i64)) (.prod (.sl 3 (.int .i64)) (.prod (.int .i64) (.int .i64))))) (off := 2) (V := iv y43.1) _ HS g15.1 (by simpa using g15.2) st3 rfl (up_K72_2 y43.1) rfl rfl) rfl ?_
    rintro _ w58 ⟨rfl, hk, HS⟩
    refine RO.nil (nx ?_)
    refine ex_seq ?_
    refine ex_region ?_
    refine ro_lt (r_mv (v := iv y43.1) rfl) rfl ?_
    refine ro_lt (r_addw rfl rfl) rfl ?_
    refine ro_lt (r_as (v := iv (wi (y43.1 + 1))) rfl) rfl ?_
    refine RO.nil (nx ?_)
    refine ex_seq ?_
    refine ex_region ?_
    refine ro_lt (r_mv (v := v_a0) rfl) rfl ?_
    refine ro_lt (r_mv (v := iv i_11) rfl) rfl ?_
    refine ro_lt (r_mv (v := iv (wi (y43.1 + 1))) rfl) rfl ?_
    obtain ⟨_, q60, l61⟩ := (HS.rd 0 rfl).idx g15.1 (by simpa using g15.2)
    obtain ⟨v62, v64, rfl, r63, r65⟩ := rd_K72 q60
    refine ro_lt (r_ia (HS.rd 0 rfl) sl24 g15.1 (by simpa using g15.2) rfl rfl) rfl ?_
    refine ro_lt (r_fa l61 fd72_3 rfl) rfl ?_
    refine ro_hy (o_setf (t := (.prod (.sl 3 (.int .i64)) (.prod (.sl 3 (.int .i64)) (.prod (.int .i64) (.int .i64))))) (off := 3) (V := iv (wi (y43.1 + 1))) _ HS g15.1 (by simpa using g15.2) st3 rfl (up_K72_3 (wi (y43.1 + 1))) rfl rfl) rfl ?_
    rintro _ w66 ⟨rfl, hk, HS⟩
    refine RO.nil (nx ?_)
    refine ex_region ?_
    refine ro_lt (r_mv (v := iv (wi (y43.1 + 1))) rfl) rfl ?_
    refine ro_lt (r_addw rfl rfl) rfl ?_
    refine ro_lt (r_as (v := iv (wi ((wi (y43.1 + 1)) + 1))) rfl) rfl ?_
    refine RO.nil (blk_nx (nx ?_))
    refine ex_region ?_
    refine ro_lt (r_mv (v := iv i_11) rfl) rfl ?_
    refine ro_lt (r_addw rfl rfl) rfl ?_
    refine ro_lt (r_as (v := iv (wi (i_11 + 1))) rfl) rfl ?_
    refine RO.nil ?_
    obtain rfl := Option.some.inj h
    exact lq_go ⟨⟨rfl, rfl, rfl, rfl, trivial⟩, HS⟩
  rintro s' w70 ⟨hs_, HS⟩
  rw [has_put hs_]; clear hs_
  refine (nx ?_)
  refine ex_seq ?_
  refine ex_region ?_
  refine ro_lt (r_mv (v := iv y68.2.1) rfl) rfl ?_
  refine ro_lt (r_as (v := iv y68.2.1) rfl) rfl ?_
  refine RO.nil (nx ?_)
  obtain rfl := Option.some.inj h
  refine ex_ret ?_
  exact ret1 (.inr rfl) rfl rfl ⟨rfl, HS⟩
theorem c_laws_markStructure {w : World} {H : Hp} {FR : List Ob} {a : (List (List Int × List Int × Int × Int)) × List Int} {v_a0 : Value} {v_a1 : Value} {k : Int} (HS : St w H w (.ow (.sl 72 (.prod (.sl 3 (.int .i64)) (.prod (.sl 3 (.int .i64)) (.prod (.int .i64) (.int .i64))))) a.1 [v_a0] :: .ow (.sl 3 (.int .i64)) a.2 [v_a1] :: FR)) {r : Int × List (List Int × List Int × Int × Int) × List Int} (h : F_laws_markStructure a k = some r) : Calls Try.prog 29 [.agg #[v_a0, v_a1], iv k].toArray w ((fun r => PS (iv r.1) fun w' => St w H w' (.ow (.sl 72 (.prod (.sl 3 (.int .i64)) (.prod (.sl 3 (.int .i64)) (.prod (.int .i64) (.int .i64))))) r.2.1 [v_a0] :: .ow (.sl 3 (.int .i64)) r.2.2 [v_a1] :: FR) : (Int × List (List Int × List Int × Int × Int) × List Int) → Ending → World → Prop) r) := by
  unfold F_laws_markStructure at h
  refine calls_ex (n := 14) Try.func29 rfl Try.ntmps29 (Nat.le_of_ble_eq_true rfl) ?_
  refine ex_seq ?_
  refine ex_region ?_
  refine ro_hy (o_boxz HS (cs := [v_a0, v_a1]) rfl rfl) rfl ?_
  rintro _ w4 ⟨g3, H7, rfl, q5, l6, hb, HS⟩
  refine ro_lt (r_as (v := iv 0) rfl) rfl ?_
  refine RO.nil (nx ?_)
  refine ex_seq ?_
  refine ex_region ?_
  refine ro_lt (r_fa (l6.sub HS.sub) fd27_0 rfl) rfl ?_
  refine ro_lt (r_ld ((l6.seg 0 1).sub HS.sub) sc24 rfl) rfl ?_
  refine ro_lt (r_mv (v := iv k) rfl) rfl ?_
  replace h := bind_some h; obtain ⟨y8, e9, h⟩ := h
  refine ro_hy (o_cs (vs := [v_a0, iv k]) (c_laws_markNodeS HS.self e9) cf83 rfl) rfl ?_
  rintro _ w10 ⟨rfl, HS2⟩
  replace HS := HS.from HS2
  refine ro_lt (r_as (v := iv y8.1) rfl) rfl ?_
  refine RO.nil (nx ?_)
  refine ex_seq ?_
  refine ex_region ?_
  refine ro_lt (r_fa (l6.sub HS.sub) fd27_1 rfl) rfl ?_
  refine ro_lt (r_ld ((l6.seg 1 1).sub HS.sub) sc25 rfl) rfl ?_
  refine ro_lt (r_mv (v := iv y8.1) rfl) rfl ?_
  replace h := bind_some h; obtain ⟨y12, e13, h⟩ := h
  refine ro_hy (o_cs (vs := [v_a1, iv y8.1]) (c_laws_markIntS (HS.sel (G := _ :: _ :: FR) [1] 0 rfl).self e13) cf84 rfl) rfl ?_
  rintro _ w14 ⟨rfl, HS2⟩
  replace HS := (HS.sel (G := _ :: _ :: FR) [1] 0 rfl).from HS2
  refine ro_lt (r_as (v := iv y12.1) rfl) rfl ?_
  refine RO.nil (nx ?_)
  refine ex_seq ?_
  refine ex_region ?_
  refine ro_lt (r_mv (v := iv y12.1) rfl) rfl ?_
  refine ro_lt (r_as (v := iv y12.1) rfl) rfl ?_
  refine RO.nil (nx ?_)
  obtain rfl := Option.some.inj h
  refine ex_ret ?_
  exact ret1 (.inr rfl) rfl rfl ⟨rfl, ((HS.sel (G := _ :: _ :: FR) [1, 0] 0 rfl).weak q5)⟩
theorem c_laws_heldIntS {w : World} {a : List Int} {v_a : Value} {k : Int} (r_a : Rd (.sl 3 (.int .i64)) (hp w) a [v_a]) {r : Int} (h : F_laws_heldIntS a k = some r) : Calls Try.prog 86 [v_a, iv k].toArray w (P1 (.int .i64) w r) := by
  unfold F_laws_heldIntS at h
  have HS := St.init w
  have hs := Sub.refl (hp w)
  refine calls_ex (n := 21) Try.func86 rfl Try.ntmps86 (Nat.le_of_ble_eq_true rfl) ?_
  refine ex_seq ?_
  refine ex_region ?_
  refine ro_lt (r_as (v := iv 0) rfl) rfl ?_
  refine RO.nil (nx ?_)
  refine ex_seq ?_
  refine ex_seq ?_
  refine ex_region ?_
  refine ro_lt (r_as (v := iv 0) rfl) rfl ?_
  refine RO.nil (nx ?_)
  replace h := bind_some h; obtain ⟨y14, e15, h⟩ := h
  refine ex_lbr (fun (st : Int × Int) s' w' => Has s' [(0, v_a), (1, iv st.1), (4, iv 0), (5, iv st.2)] ∧ St w (hp w) w' []) (fun r s' w' => FQ Try.prog Try.f86 21 (P1 (.int .i64) w r) .ret s' w') e15 ⟨⟨rfl, rfl, rfl, rfl, trivial⟩, HS⟩ ?_ ?_
  · rintro ⟨k_7, i_8⟩ c' s' w9 ⟨hs_, HS⟩ h
    rw [has_put hs_]; clear hs_
    try dsimp only at HS
    replace h : F_laws_heldIntS_b1 a k_7 i_8 = some c' := h
    unfold F_laws_heldIntS_b1 at h
    refine ex_seq ?_
    refine ex_seq ?_
    refine ex_region ?_
    refine ro_lt (r_mv (v := iv i_8) rfl) rfl ?_
    refine ro_lt (r_mv (v := v_a) rfl) rfl ?_
    have b10 := (r_a.sub HS.sub).big
    refine ro_lt (r_len (n := 1) (r_a.sub HS.sub) sl25 rfl) rfl ?_
    refine ro_lt (r_lss rfl rfl) rfl ?_
    refine RO.nil (nx ?_)
    replace h := ite_some h; rcases h with ⟨c11, h⟩ | ⟨c11, h⟩
    rotate_left
    · refine ex_if_f rfl (decide_eq_false c11) ?_
      refine ex_exit (tq_exit ?_)
      obtain rfl := Option.some.inj h
      exact lq_out ⟨⟨rfl, rfl, rfl, rfl, trivial⟩, HS⟩
    refine ex_if_t rfl (decide_eq_true c11) ?_
    refine ex_skip (nx ?_)
    refine ex_seq ?_
    refine ex_block ?_
    refine ex_seq ?_
    refine ex_seq ?_
    refine ex_region ?_
    refine ro_lt (r_mv (v := v_a) rfl) rfl ?_
    refine ro_lt (r_mv (v := iv i_8) rfl) rfl ?_
    replace h := grd_some h; obtain ⟨g12, h⟩ := h
    refine ro_lt (r_ia (r_a.sub HS.sub) sl25 g12.1 g12.2 rfl rfl) rfl ?_
    refine ro_lt (r_ld ((r_a.int g12.1 g12.2).sub HS.sub) sc3 rfl) rfl ?_
    refine ro_lt (r_mv (v := iv k_7) rfl) rfl ?_
    refine ro_lt (r_neq rfl rfl) rfl ?_
    refine RO.nil (nx ?_)
    replace h := ite_some h; rcases h with ⟨c13, h⟩ | ⟨c13, h⟩
    rotate_left
    · refine ex_if_t rfl (congrArg (!·) (decide_eq_false c13)) ?_
      refine ex_seq ?_
      refine ex_region ?_
      refine ro_lt (r_as (v := iv ((-1))) rfl) rfl ?_
      refine RO.nil (nx ?_)
      obtain rfl := Option.some.inj h
      refine ex_ret (tq_ret (blk_ret (tq_ret (lq_ret ?_))))
      exact ret1 (.inr rfl) rfl rfl (P1.of_flat HS hs rfl)
    refine ex_if_f rfl (congrArg (!·) (decide_eq_true c13)) ?_
    refine ex_skip (nx ?_)
    refine ex_region ?_
    refine ro_lt (r_mv (v := iv k_7) rfl) rfl ?_
    refine ro_lt (r_addw rfl rfl) rfl ?_
    refine ro_lt (r_as (v := iv (wi (k_7 + 1))) rfl) rfl ?_
    refine RO.nil (blk_nx (nx ?_))
    refine ex_region ?_
    refine ro_lt (r_mv (v := iv i_8) rfl) rfl ?_
    refine ro_lt (r_addw rfl rfl) rfl ?_
    refine ro_lt (r_as (v := iv (wi (i_8 + 1))) rfl) rfl ?_
    refine RO.nil ?_
    obtain rfl := Option.some.inj h
    exact lq_go ⟨⟨rfl, rfl, rfl, rfl, trivial⟩, HS⟩
  rcases y14 with r18 | y14
  · intro s' w' hR
    obtain rfl := Option.some.inj h
    exact (tq_ret hR)
  rintro s' w16 ⟨hs_, HS⟩
  rw [has_put hs_]; clear hs_
  refine (nx ?_)
  refine ex_seq ?_
  refine ex_region ?_
  refine ro_lt (r_mv (v := iv y14.1) rfl) rfl ?_
  refine ro_lt (r_as (v := iv y14.1) rfl) rfl ?_
  refine RO.nil (nx ?_)
  obtain rfl := Option.some.inj h
  refine ex_ret ?_
  exact ret1 (.inr rfl) rfl rfl (P1.of_flat HS hs rfl)
theorem c_laws_heldNodeS {w : World} {a : List (List Int × List Int × Int × Int)} {v_a : Value} {k : Int} (r_a : Rd (.sl 72 (.prod (.sl 3 (.int .i64)) (.prod (.sl 3 (.int .i64)) (.prod (.int .i64) (.int .i64))))) (hp w) a [v_a]) {r : Int} (h : F_laws_heldNodeS a k = some r) : Calls Try.prog 85 [v_a, iv k].toArray w (P1 (.int .i64) w r) := by
  unfold F_laws_heldNodeS at h
  have HS := St.init w
  have hs := Sub.refl (hp w)
  refine calls_ex (n := 49) Try.func85 rfl Try.ntmps85 (Nat.le_of_ble_eq_true rfl) ?_
  refine ex_seq ?_
  refine ex_region ?_
  refine ro_lt (r_as (v := iv 0) rfl) rfl ?_
  refine RO.nil (nx ?_)
  refine ex_seq ?_
  refine ex_seq ?_
  refine ex_region ?_
  refine ro_lt (r_as (v := iv 0) rfl) rfl ?_
  refine RO.nil (nx ?_)
  replace h := bind_some h; obtain ⟨y47, e48, h⟩ := h
  refine ex_lbr (fun (st : Int × Int) s' w' => Has s' [(0, v_a), (1, iv st.1), (4, iv 0), (5, iv st.2)] ∧ St w (hp w) w' []) (fun r s' w' => FQ Try.prog Try.f85 49 (P1 (.int .i64) w r) .ret s' w') e48 ⟨⟨rfl, rfl, rfl, rfl, trivial⟩, HS⟩ ?_ ?_
  · rintro ⟨k_7, i_8⟩ c' s' w9 ⟨hs_, HS⟩ h
    rw [has_put hs_]; clear hs_
    try dsimp only at HS
    replace h : F_laws_heldNodeS_b1 a k_7 i_8 = some c' := h
    unfold F_laws_heldNodeS_b1 at h
    refine ex_seq ?_
    refine ex_seq ?_
    refine ex_region ?_
    refine ro_lt (r_mv (v := iv i_8) rfl) rfl ?_
    refine ro_lt (r_mv (v := v_a) rfl) rfl ?_
    have b10 := (r_a.sub HS.sub).big
    refine ro_lt (r_len (n := 4) (r_a.sub HS.sub) sl24 rfl) rfl ?_
    refine ro_lt (r_lss rfl rfl) rfl ?_
    refine RO.nil (nx ?_)
    replace h := ite_some h; rcases h with ⟨c11, h⟩ | ⟨c11, h⟩
    rotate_left
    · refine ex_if_f rfl (decide_eq_false c11) ?_
      refine ex_exit (tq_exit ?_)
      obtain rfl := Option.some.inj h
      exact lq_out ⟨⟨rfl, rfl, rfl, rfl, trivial⟩, HS⟩
    refine ex_if_t rfl (decide_eq_true c11) ?_
    refine ex_skip (nx ?_)
    refine ex_seq ?_
    refine ex_block ?_
    refine ex_seq ?_
    refine ex_region ?_
    refine ro_lt (r_mv (v := v_a) rfl) rfl ?_
    refine ro_lt (r_mv (v := iv i_8) rfl) rfl ?_
    replace h := grd_some h; obtain ⟨g12, h⟩ := h
    obtain ⟨_, q13, l14⟩ := r_a.idx g12.1 g12.2
    obtain ⟨v15, v17, rfl, r16, r18⟩ := rd_K72 q13
    refine ro_lt (r_ia (r_a.sub HS.sub) sl24 g12.1 g12.2 rfl rfl) rfl ?_
    refine ro_lt (r_fa (l14.sub HS.sub) fd72_0 rfl) rfl ?_
    refine ro_lt (r_ld ((l14.seg 0 1).sub HS.sub) sc25 rfl) rfl ?_
    refine ro_lt (r_mv (v := iv k_7) rfl) rfl ?_
    replace h := bind_some h; obtain ⟨y19, e20, h⟩ := h
    refine ro_hy (o_cf (vs := [v15, iv k_7]) HS rfl (c_laws_heldIntS (r16.sub HS.sub) e20) cf86 rfl) rfl ?_
    rintro _ w21 ⟨rfl, hb, HS⟩
    refine ro_lt (r_as (v := iv y19) rfl) rfl ?_
    refine RO.nil (nx ?_)
    refine ex_seq ?_
    refine ex_seq ?_
    refine ex_region ?_
    refine ro_lt (r_mv (v := iv y19) rfl) rfl ?_
    refine ro_lt (r_lss rfl rfl) rfl ?_
    refine RO.nil (nx ?_)
    replace h := ite_some h; rcases h with ⟨c22, h⟩ | ⟨c22, h⟩
    · refine ex_if_t rfl (decide_eq_true c22) ?_
      refine ex_seq ?_
      refine ex_region ?_
      refine ro_lt (r_as (v := iv ((-1))) rfl) rfl ?_
      refine RO.nil (nx ?_)
      obtain rfl := Option.some.inj h
      refine ex_ret (tq_ret (blk_ret (tq_ret (lq_ret ?_))))
      exact ret1 (.inr rfl) rfl rfl (P1.of_flat HS hs rfl)
    refine ex_if_f rfl (decide_eq_false c22) ?_
    refine ex_skip (nx ?_)
    refine ex_seq ?_
    refine ex_region ?_
    refine ro_lt (r_mv (v := v_a) rfl) rfl ?_
    refine ro_lt (r_mv (v := iv i_8) rfl) rfl ?_
    obtain ⟨_, q23, l24⟩ := r_a.idx g12.1 g12.2
    obtain ⟨v25, v27, rfl, r26, r28⟩ := rd_K72 q23
    refine ro_lt (r_ia (r_a.sub HS.sub) sl24 g12.1 g12.2 rfl rfl) rfl ?_
    refine ro_lt (r_fa (l24.sub HS.sub) fd72_1 rfl) rfl ?_
    refine ro_lt (r_ld ((l24.seg 1 1).sub HS.sub) sc25 rfl) rfl ?_
    refine ro_lt (r_mv (v := iv y19) rfl) rfl ?_
    replace h := bind_some h; obtain ⟨y29, e30, h⟩ := h
    refine ro_hy (o_cf (vs := [v27, iv y19]) HS rfl (c_laws_heldIntS (r28.sub HS.sub) e30) cf86 rfl) rfl ?_
    rintro _ w31 ⟨rfl, hb, HS⟩
    refine ro_lt (r_as (v := iv y29) rfl) rfl ?_
    refine RO.nil (nx ?_)
    refine ex_seq ?_
    refine ex_seq ?_
    refine ex_region ?_
    refine ro_lt (r_mv (v := iv y29) rfl) rfl ?_
    refine ro_lt (r_lss rfl rfl) rfl ?_
    refine RO.nil (nx ?_)
    replace h := ite_some h; rcases h with ⟨c32, h⟩ | ⟨c32, h⟩
    · refine ex_if_t rfl (decide_eq_true c32) ?_
      refine ex_seq ?_
      refine ex_region ?_
      refine ro_lt (r_as (v := iv ((-1))) rfl) rfl ?_
      refine RO.nil (nx ?_)
      obtain rfl := Option.some.inj h
      refine ex_ret (tq_ret (blk_ret (tq_ret (lq_ret ?_))))
      exact ret1 (.inr rfl) rfl rfl (P1.of_flat HS hs rfl)
    refine ex_if_f rfl (decide_eq_false c32) ?_
    refine ex_skip (nx ?_)
    refine ex_seq ?_
    refine ex_seq ?_
    refine ex_region ?_
    refine ro_lt (r_mv (v := v_a) rfl) rfl ?_
    refine ro_lt (r_mv (v := iv i_8) rfl) rfl ?_
    obtain ⟨_, q33, l34⟩ := r_a.idx g12.1 g12.2
    obtain ⟨v35, v37, rfl, r36, r38⟩ := rd_K72 q33
    refine ro_lt (r_ia (r_a.sub HS.sub) sl24 g12.1 g12.2 rfl rfl) rfl ?_
    refine ro_lt (r_fa (l34.sub HS.sub) fd72_2 rfl) rfl ?_
    refine ro_lt (r_ld ((l34.seg 2 1).sub HS.sub) sc3 rfl) rfl ?_
    refine ro_lt (r_mv (v := iv y29) rfl) rfl ?_
    refine ro_lt (r_neq rfl rfl) rfl ?_
    refine RO.nil (nx ?_)
    replace h := ite_some h; rcases h with ⟨c39, h⟩ | ⟨c39, h⟩
    rotate_left
    · refine ex_if_t rfl (congrArg (!·) (decide_eq_false c39)) ?_
      refine ex_seq ?_
      refine ex_region ?_
      refine ro_lt (r_as (v := iv ((-1))) rfl) rfl ?_
      refine RO.nil (nx ?_)
      obtain rfl := Option.some.inj h
      refine ex_ret (tq_ret (blk_ret (tq_ret (lq_ret ?_))))
      exact ret1 (.inr rfl) rfl rfl (P1.of_flat HS hs rfl)
    refine ex_if_f rfl (congrArg (!·) (decide_eq_true c39)) ?_
    refine ex_skip (nx ?_)
    refine ex_seq ?_
    refine ex_region ?_
    refine ro_lt (r_mv (v := iv y29) rfl) rfl ?_
    refine ro_lt (r_addw rfl rfl) rfl ?_
    refine ro_lt (r_as (v := iv (wi (y29 + 1))) rfl) rfl ?_
    refine RO.nil (nx ?_)
    refine ex_seq ?_
    refine ex_seq ?_
    refine ex_region ?_
    refine ro_lt (r_mv (v := v_a) rfl) rfl ?_
    refine ro_lt (r_mv (v := iv i_8) rfl) rfl ?_
    obtain ⟨_, q40, l41⟩ := r_a.idx g12.1 g12.2
    obtain ⟨v42, v44, rfl, r43, r45⟩ := rd_K72 q40
    refine ro_lt (r_ia (r_a.sub HS.sub) sl24 g12.1 g12.2 rfl rfl) rfl ?_
    refine ro_lt (r_fa (l41.sub HS.sub) fd72_3 rfl) rfl ?_
    refine ro_lt (r_ld ((l41.seg 3 1).sub HS.sub) sc3 rfl) rfl ?_
    refine ro_lt (r_mv (v := iv (wi (y29 + 1))) rfl) rfl ?_
    refine ro_lt (r_neq rfl rfl) rfl ?_
    refine RO.nil (nx ?_)
    replace h := ite_some h; rcases h with ⟨c46, h⟩ | ⟨c46, h⟩
    rotate_left
    · refine ex_if_t rfl (congrArg (!·) (decide_eq_false c46)) ?_
      refine ex_seq ?_
      refine ex_region ?_
      refine ro_lt (r_as (v := iv ((-1))) rfl) rfl ?_
      refine RO.nil (nx ?_)
      obtain rfl := Option.some.inj h
      refine ex_ret (tq_ret (blk_ret (tq_ret (lq_ret ?_))))
      exact ret1 (.inr rfl) rfl rfl (P1.of_flat HS hs rfl)
    refine ex_if_f rfl (congrArg (!·) (decide_eq_true c46)) ?_
    refine ex_skip (nx ?_)
    refine ex_region ?_
    refine ro_lt (r_mv (v := iv (wi (y29 + 1))) rfl) rfl ?_
    refine ro_lt (r_addw rfl rfl) rfl ?_
    refine ro_lt (r_as (v := iv (wi ((wi (y29 + 1)) + 1))) rfl) rfl ?_
    refine RO.nil (blk_nx (nx ?_))
    refine ex_region ?_
    refine ro_lt (r_mv (v := iv i_8) rfl) rfl ?_
    refine ro_lt (r_addw rfl rfl) rfl ?_
    refine ro_lt (r_as (v := iv (wi (i_8 + 1))) rfl) rfl ?_
    refine RO.nil ?_
    obtain rfl := Option.some.inj h
    exact lq_go ⟨⟨rfl, rfl, rfl, rfl, trivial⟩, HS⟩
  rcases y47 with r51 | y47
  · intro s' w' hR
    obtain rfl := Option.some.inj h
    exact (tq_ret hR)
  rintro s' w49 ⟨hs_, HS⟩
  rw [has_put hs_]; clear hs_
  refine (nx ?_)
  refine ex_seq ?_
  refine ex_region ?_
  refine ro_lt (r_mv (v := iv y47.1) rfl) rfl ?_
  refine ro_lt (r_as (v := iv y47.1) rfl) rfl ?_
  refine RO.nil (nx ?_)
  obtain rfl := Option.some.inj h
  refine ex_ret ?_
  exact ret1 (.inr rfl) rfl rfl (P1.of_flat HS hs rfl)
theorem c_laws_heldStructure {w : World} {a : (List (List Int × List Int × Int × Int)) × List Int} {v_a0 : Value} {v_a1 : Value} {k : Int} (r_a0 : Rd (.sl 72 (.prod (.sl 3 (.int .i64)) (.prod (.sl 3 (.int .i64)) (.prod (.int .i64) (.int .i64))))) (hp w) a.1 [v_a0]) (r_a1 : Rd (.sl 3 (.int .i64)) (hp w) a.2 [v_a1]) {r : Int} (h : F_laws_heldStructure a k = some r) : Calls Try.prog 30 [.agg #[v_a0, v_a1], iv k].toArray w (P1 (.int .i64) w r) := by
  unfold F_laws_heldStructure at h
  have HS := St.init w
  have hs := Sub.refl (hp w)
  refine calls_ex (n := 18) Try.func30 rfl Try.ntmps30 (Nat.le_of_ble_eq_true rfl) ?_
  refine ex_seq ?_
  refine ex_region ?_
  refine ro_hy (o_boxz HS (cs := [v_a0, v_a1]) rfl rfl) rfl ?_
  rintro _ w2 ⟨g1, H5, rfl, q3, l4, hb, HS⟩
  replace r_a0 := r_a0.sub q3
  replace r_a1 := r_a1.sub q3
  replace hs := hs.trans q3
  refine ro_lt (r_as (v := iv 0) rfl) rfl ?_
  refine RO.nil (nx ?_)
  refine ex_seq ?_
  refine ex_region ?_
  refine ro_lt (r_fa (l4.sub HS.sub) fd27_0 rfl) rfl ?_
  refine ro_lt (r_ld ((l4.seg 0 1).sub HS.sub) sc24 rfl) rfl ?_
  refine ro_lt (r_mv (v := iv k) rfl) rfl ?_
  replace h := bind_some h; obtain ⟨y6, e7, h⟩ := h
  refine ro_hy (o_cf (vs := [v_a0, iv k]) HS rfl (c_laws_heldNodeS (r_a0.sub HS.sub) e7) cf85 rfl) rfl ?_
  rintro _ w8 ⟨rfl, hb, HS⟩
  refine ro_lt (r_as (v := iv y6) rfl) rfl ?_
  refine RO.nil (nx ?_)
  refine ex_seq ?_
  refine ex_seq ?_
  refine ex_region ?_
  refine ro_lt (r_mv (v := iv y6) rfl) rfl ?_
  refine ro_lt (r_lss rfl rfl) rfl ?_
  refine RO.nil (nx ?_)
  replace h := ite_some h; rcases h with ⟨c9, h⟩ | ⟨c9, h⟩
  · refine ex_if_t rfl (decide_eq_true c9) ?_
    refine ex_seq ?_
    refine ex_region ?_
    refine ro_lt (r_as (v := iv ((-1))) rfl) rfl ?_
    refine RO.nil (nx ?_)
    obtain rfl := Option.some.inj h
    refine ex_ret (tq_ret ?_)
    exact ret1 (.inr rfl) rfl rfl (P1.of_flat HS hs rfl)
  refine ex_if_f rfl (decide_eq_false c9) ?_
  refine ex_skip (nx ?_)
  refine ex_seq ?_
  refine ex_region ?_
  refine ro_lt (r_fa (l4.sub HS.sub) fd27_1 rfl) rfl ?_
  refine ro_lt (r_ld ((l4.seg 1 1).sub HS.sub) sc25 rfl) rfl ?_
  refine ro_lt (r_mv (v := iv y6) rfl) rfl ?_
  replace h := bind_some h; obtain ⟨y10, e11, h⟩ := h
  refine ro_hy (o_cf (vs := [v_a1, iv y6]) HS rfl (c_laws_heldIntS (r_a1.sub HS.sub) e11) cf86 rfl) rfl ?_
  rintro _ w12 ⟨rfl, hb, HS⟩
  refine ro_lt (r_as (v := iv y10) rfl) rfl ?_
  refine RO.nil (nx ?_)
  refine ex_seq ?_
  refine ex_seq ?_
  refine ex_region ?_
  refine ro_lt (r_mv (v := iv y10) rfl) rfl ?_
  refine ro_lt (r_lss rfl rfl) rfl ?_
  refine RO.nil (nx ?_)
  replace h := ite_some h; rcases h with ⟨c13, h⟩ | ⟨c13, h⟩
  · refine ex_if_t rfl (decide_eq_true c13) ?_
    refine ex_seq ?_
    refine ex_region ?_
    refine ro_lt (r_as (v := iv ((-1))) rfl) rfl ?_
    refine RO.nil (nx ?_)
    obtain rfl := Option.some.inj h
    refine ex_ret (tq_ret ?_)
    exact ret1 (.inr rfl) rfl rfl (P1.of_flat HS hs rfl)
  refine ex_if_f rfl (decide_eq_false c13) ?_
  refine ex_skip (nx ?_)
  refine ex_seq ?_
  refine ex_region ?_
  refine ro_lt (r_mv (v := iv y10) rfl) rfl ?_
  refine ro_lt (r_as (v := iv y10) rfl) rfl ?_
  refine RO.nil (nx ?_)
  obtain rfl := Option.some.inj h
  refine ex_ret ?_
  exact ret1 (.inr rfl) rfl rfl (P1.of_flat HS hs rfl)
theorem c_laws_FnExactCoerce {w : World} {aVars : Int} {aS : (List (List Int × List Int × Int × Int)) × List Int} {v_aS0 : Value} {v_aS1 : Value} (r_aS0 : Rd (.sl 123 (.prod (.sl 3 (.int .i64)) (.prod (.sl 3 (.int .i64)) (.prod (.int .i64) (.int .i64))))) (hp w) aS.1 [v_aS0]) (r_aS1 : Rd (.sl 3 (.int .i64)) (hp w) aS.2 [v_aS1]) {r : Bool} (h : F_laws_FnExactCoerce aVars aS = some r) : Calls Try.prog 5 [iv aVars, .agg #[v_aS0, v_aS1]].toArray w (P1 .bool w r) := by
  unfold F_laws_FnExactCoerce at h
  have HS := St.init w
  have hs := Sub.refl (hp w)
  refine calls_ex (n := 101) Try.func5 rfl Try.ntmps5 (Nat.le_of_ble_eq_true rfl) ?_
  refine ex_seq ?_
  refine ex_region ?_
  refine ro_hy (o_boxz HS (cs := [v_aS0, v_aS1]) rfl rfl) rfl ?_
  rintro _ w2 ⟨g1, H5, rfl, q3, l4, hb, HS⟩
  replace r_aS0 := r_aS0.sub q3
  replace r_aS1 := r_aS1.sub q3
  replace hs := hs.trans q3
  refine ro_lt (r_as (v := .bool false) rfl) rfl ?_
  refine RO.nil (nx ?_)
  refine ex_seq ?_
  refine ex_region ?_
  refine ro_lt (r_as (v := iv 1048576) rfl) rfl ?_
  refine RO.nil (nx ?_)
  refine ex_seq ?_
  refine ex_region ?_
  refine ro_lt (r_lda (l4.sub HS.sub) ag43 rfl rfl) rfl ?_
  refine ro_lt (r_mv (v := iv 1048576) rfl) rfl ?_
  replace h := bind_some h; obtain ⟨y6, e7, h⟩ := h
  refine ro_hy (o_cf (vs := [.agg #[v_aS0, v_aS1], iv 1048576]) HS rfl (c_laws_szStructure (r_aS0.sub HS.sub) (r_aS1.sub HS.sub) e7) cf22 rfl) rfl ?_
  rintro _ w8 ⟨rfl, hb, HS⟩
  refine ro_lt (r_as (v := iv y6) rfl) rfl ?_
  refine RO.nil (nx ?_)
  refine ex_seq ?_
  refine ex_seq ?_
  refine ex_region ?_
  refine ro_lt (r_mv (v := iv y6) rfl) rfl ?_
  refine ro_lt (r_lss rfl rfl) rfl ?_
  refine RO.nil (nx ?_)
  replace h := ite_some h; rcases h with ⟨c9, h⟩ | ⟨c9, h⟩
  · refine ex_if_t rfl (decide_eq_true c9) ?_
    refine ex_seq ?_
    refine ex_region ?_
    refine ro_lt (r_as (v := .bool true) rfl) rfl ?_
    refine RO.nil (nx ?_)
    obtain rfl := Option.some.inj h
    refine ex_ret (tq_ret ?_)
    exact ret1 (.inr rfl) rfl rfl (P1.of_flat HS hs rfl)
  refine ex_if_f rfl (decide_eq_false c9) ?_
  refine ex_skip (nx ?_)
  refine ex_seq ?_
  refine ex_region ?_
  refine ro_lt (r_mv (v := iv aVars) rfl) rfl ?_
  refine ro_lt (r_lda (l4.sub HS.sub) ag43 rfl rfl) rfl ?_
  replace h := bind_some h; obtain ⟨y10, e11, h⟩ := h
  refine ro_hy (o_c1 (vs := [.agg #[v_aS0, v_aS1]]) HS (c_laws_toStructure (r_aS0.sub HS.sub) (r_aS1.sub HS.sub) e11) cf24 rfl) rfl ?_
  rintro _ w12 ⟨cs13, rfl, hb, HS⟩
  replace HS := st_K27 HS
  obtain ⟨v15, v17, rfl, HS⟩ := HS
  replace h := bind_some h; obtain ⟨y18, e19, h⟩ := h
  refine ro_hy (o_c2 (vs := [iv aVars, .agg #[v15, v17]]) HS (c_spec_Coerce (HS.rd 0 rfl) (HS.rd 1 rfl) e19) cf27 rfl) rfl ?_
  rintro _ w20 ⟨cs21, cs22, rfl, hb, HS⟩
  replace HS := st_K27 HS
  obtain ⟨v24, v26, rfl, HS⟩ := HS
  obtain rfl := HS.flat 2 rfl rfl
  replace HS := (HS.sel (G := [_, _, _, _]) [0, 0] 1 rfl)
  refine ro_lt (r_mv rfl) rfl ?_
  refine ro_lt (r_ext (vs := [.agg #[v24, v26], .bool y18.2]) (i := 0) rfl rfl) rfl ?_
  refine ro_lt (r_ext (vs := [.agg #[v24, v26], .bool y18.2]) (i := 1) rfl rfl) rfl ?_
  refine ro_hy (o_alloc HS (cs := [.slice none 0 0, .slice none 0 0]) ze27 rfl) rfl ?_
  rintro _ w28 ⟨g27, rfl, hb, HS⟩
  refine ro_hy (o_str (off := 0) (vs := [v24, v26]) (l' := [v24, v26]) HS rfl rfl rfl st27 rfl rfl (pl (HS.rd 1 rfl).pl (pl (HS.rd 2 rfl).pl pl0)) rfl) rfl ?_
  rintro _ w30 ⟨rfl, hk, HS⟩
  refine ro_lt (r_as (v := .bool y18.2) rfl) rfl ?_
  refine RO.nil (nx ?_)
  refine ex_seq ?_
  refine ex_region ?_
  refine ro_lt (r_lda (l4.sub HS.sub) ag43 rfl rfl) rfl ?_
  replace h := bind_some h; obtain ⟨y32, e33, h⟩ := h
  refine ro_hy (o_c1 (vs := [.agg #[v_aS0, v_aS1]]) HS (c_laws_toStructure (r_aS0.sub HS.sub) (r_aS1.sub HS.sub) e33) cf24 rfl) rfl ?_
  rintro _ w34 ⟨cs35, rfl, hb, HS⟩
  replace HS := st_K27 HS
  obtain ⟨v37, v39, rfl, HS⟩ := HS
  refine ro_hy (o_alloc HS (cs := [.slice none 0 0, .slice none 0 0]) ze27 rfl) rfl ?_
  rintro _ w41 ⟨g40, rfl, hb, HS⟩
  refine ro_hy (o_str (off := 0) (vs := [v37, v39]) (l' := [v37, v39]) HS rfl rfl rfl st27 rfl rfl (pl (HS.rd 1 rfl).pl (pl (HS.rd 2 rfl).pl pl0)) rfl) rfl ?_
  rintro _ w43 ⟨rfl, hk, HS⟩
  refine RO.nil (nx ?_)
  refine ex_seq ?_
  refine ex_region ?_
  refine ro_lt (r_mv (v := iv aVars) rfl) rfl ?_
  refine ro_lt (r_lda (HS.boxAt 0 rfl) ag27 rfl rfl) rfl ?_
  replace h := bind_some h; obtain ⟨y45, e46, h⟩ := h
  refine ro_hy (o_c2 (vs := [iv aVars, .agg #[v37, v39]]) HS (c_impl_Coerce (HS.rd 1 rfl) (HS.rd 2 rfl) e46) cf28 rfl) rfl ?_
  rintro _ w47 ⟨cs48, cs49, rfl, hb, HS⟩
  replace HS := st_K27 HS
  obtain ⟨v51, v53, rfl, HS⟩ := HS
  obtain rfl := HS.flat 2 rfl rfl
  replace HS := (HS.sel (G := [_, _, _, _, _, _, _, _, _, _]) [0, 0] 1 rfl)
  refine ro_lt (r_mv rfl) rfl ?_
  refine ro_lt (r_ext (vs := [.agg #[v51, v53], .bool y45.2]) (i := 0) rfl rfl) rfl ?_
  refine ro_lt (r_ext (vs := [.agg #[v51, v53], .bool y45.2]) (i := 1) rfl rfl) rfl ?_
  refine ro_hy (o_alloc HS (cs := [.slice none 0 0, .slice none 0 0]) ze27 rfl) rfl ?_
  rintro _ w55 ⟨g54, rfl, hb, HS⟩
  refine ro_hy (o_str (off := 0) (vs := [v51, v53]) (l' := [v51, v53]) HS rfl rfl rfl st27 rfl rfl (pl (HS.rd 1 rfl).pl (pl (HS.rd 2 rfl).pl pl0)) rfl) rfl ?_
  rintro _ w57 ⟨rfl, hk, HS⟩
  refine ro_lt (r_as (v := .bool y45.2) rfl) rfl ?_
  refine RO.nil (nx ?_)
  refine ex_seq ?_
  refine ex_seq ?_
  refine ex_region ?_
  refine ro_lt (r_lda (HS.boxAt 0 rfl) ag27 rfl rfl) rfl ?_
  refine ro_lt (r_lda (HS.boxAt 6 rfl) ag27 rfl rfl) rfl ?_
  replace h := bind_some h; obtain ⟨y59, e60, h⟩ := h
  refine ro_hy (o_cf (vs := [.agg #[v51, v53], .agg #[v24, v26]]) HS rfl (c_laws_eqStructure (HS.rd 1 rfl) (HS.rd 2 rfl) (HS.rd 7 rfl) (HS.rd 8 rfl) e60) cf26 rfl) rfl ?_
  rintro _ w61 ⟨rfl, hb, HS⟩
  refine ro_lt (r_not rfl) rfl ?_
  refine ro_lt (r_mv (v := .bool ((!y59))) rfl) rfl ?_
  replace h := ite_some h; rcases h with ⟨c62, h⟩ | ⟨c62, h⟩
  rotate_left
  · refine ro_off (sb (congrArg (!·) (bf c62))) rfl rfl ?_
    refine ro_off (sb (congrArg (!·) (bf c62))) rfl rfl ?_
    refine ro_off (sb (congrArg (!·) (bf c62))) rfl rfl ?_
    refine ro_lt (r_pickt (v := .bool true) (congrArg (!·) (bf c62)) rfl rfl) rfl ?_
    refine RO.nil (nx ?_)
    refine ex_if_t rfl (rfl) ?_
    refine ex_seq ?_
    refine ex_region ?_
    refine ro_lt (r_as (v := .bool false) rfl) rfl ?_
    refine RO.nil (nx ?_)
    obtain rfl := Option.some.inj h
    refine ex_ret (tq_ret ?_)
    exact ret1 (.inr rfl) rfl rfl (P1.of_flat HS hs rfl)
  refine ro_on (sb (congrArg (!·) (c62))) ?_
  refine ro_lt (r_mv (v := .bool y45.2) rfl) rfl ?_
  refine ro_on (sb (congrArg (!·) (c62))) ?_
  refine ro_lt (r_mv (v := .bool y18.2) rfl) rfl ?_
  refine ro_on (sb (congrArg (!·) (c62))) ?_
  refine ro_lt (r_bneq rfl rfl bo4) rfl ?_
  refine ro_lt (r_pickf (v := .bool ((!(decide (y45.2 = y18.2))))) (congrArg (!·) (c62)) rfl rfl) rfl ?_
  refine RO.nil (nx ?_)
  replace h := ite_some h; rcases h with ⟨c63, h⟩ | ⟨c63, h⟩
  rotate_left
  · refine ex_if_t rfl (congrArg (!·) (decide_eq_false c63)) ?_
    refine ex_seq ?_
    refine ex_region ?_
    refine ro_lt (r_as (v := .bool false) rfl) rfl ?_
    refine RO.nil (nx ?_)
    obtain rfl := Option.some.inj h
    refine ex_ret (tq_ret ?_)
    exact ret1 (.inr rfl) rfl rfl (P1.of_flat HS hs rfl)
  refine ex_if_f rfl (congrArg (!·) (decide_eq_true c63)) ?_
  refine ex_skip (nx ?_)
  refine ex_seq ?_
  refine ex_seq ?_
  refine ex_dr (Mm H5 [0]) (fun _ => True) [0, 0, 2, 7, 15] [2, 3] (.op 0 (.op 1 (.op 2 (.op 3 (.op 4 .nil))))) mix (by kernel_rfl) (by kernel_rfl) ?_
  intro w64 hw hb; have HS := HS.ext hb; clear hw hb
  refine RT.lt rfl rfl rfl rfl (fun w' k => r_lda ((HS.boxAt 3 rfl).k0 (Sub.refl _) (k.kp.none rfl)) ag27 rfl rfl) ?_
  refine RT.lt rfl rfl rfl rfl (fun w' k => r_lda (l4.kp HS.sub k.kp (mh rfl)) ag43 rfl rfl) ?_
  replace h := bind_some h; obtain ⟨y65, e66, h⟩ := h
  refine RT.hy rfl rfl rfl rfl rfl (o_c1 (vs := [.agg #[v_aS0, v_aS1]]) HS (c_laws_toStructure (r_aS0.sub HS.sub) (r_aS1.sub HS.sub) e66) cf24 rfl) (fun _ _ ⟨_, _, hb, _⟩ => km_below hb (fun _ => trivial)) ?_
  rintro _ w67 ⟨cs68, rfl, hb, HS⟩
  replace HS := st_K27 HS
  obtain ⟨v70, v72, rfl, HS⟩ := HS
  replace h := bind_some h; obtain ⟨y73, e74, h⟩ := h
  refine RT.hy rfl rfl rfl rfl rfl (o_cf (vs := [.agg #[v37, v39], .agg #[v70, v72]]) HS rfl (c_laws_eqStructure (HS.rd 6 rfl) (HS.rd 7 rfl) (HS.rd 0 rfl) (HS.rd 1 rfl) e74) cf26 rfl) (fun _ _ ⟨_, hb, _⟩ => km_below hb (fun _ => trivial)) ?_
  rintro _ w75 ⟨rfl, hb, HS⟩
  refine RT.lt rfl rfl rfl rfl (fun w' k => r_not rfl) ?_
  refine RT.nil (nx ?_)
  replace h := ite_some h; rcases h with ⟨c76, h⟩ | ⟨c76, h⟩
  rotate_left
  · refine ex_if_t rfl (congrArg (!·) (bf c76)) ?_
    refine ex_seq ?_
    refine ex_region ?_
    refine ro_lt (r_as (v := .bool false) rfl) rfl ?_
    refine RO.nil (nx ?_)
    obtain rfl := Option.some.inj h
    refine ex_ret (tq_ret ?_)
    exact ret1 (.inr rfl) rfl rfl (P1.of_flat HS hs rfl)
  refine ex_if_f rfl (congrArg (!·) (c76)) ?_
  refine ex_skip (nx ?_)
  refine ex_seq ?_
  refine ex_region ?_
  refine ro_lt (r_as (v := iv 1) rfl) rfl ?_
  refine RO.nil (nx ?_)
  refine ex_seq ?_
  refine ex_region ?_
  refine ro_lt (r_lda (HS.boxAt 5 rfl) ag27 rfl rfl) rfl ?_
  refine ro_lt (r_mv (v := iv 1) rfl) rfl ?_
  replace h := bind_some h; obtain ⟨y77, e78, h⟩ := h
  refine ro_hy (o_cs (vs := [.agg #[v37, v39], iv 1]) (c_laws_markStructure (HS.sel (G := [_, _, _, _, _, _, _, _, _, _, _, _, _]) [6, 6] 0 rfl).self e78) cf29 rfl) rfl ?_
  rintro _ w79 ⟨rfl, HS2⟩
  replace HS := (HS.sel (G := [_, _, _, _, _, _, _, _, _, _, _, _, _]) [6, 6] 0 rfl).from HS2
  refine ro_lt (r_as (v := iv y77.1) rfl) rfl ?_
  refine RO.nil (nx ?_)
  refine ex_seq ?_
  refine ex_seq ?_
  refine ex_region ?_
  refine ro_lt (r_mv (v := iv y77.1) rfl) rfl ?_
  refine ro_lt (r_lss rfl rfl) rfl ?_
  refine ro_lt (r_mv (v := .bool ((decide (y77.1 < 0)))) rfl) rfl ?_
  replace h := ite_some h; rcases h with ⟨c81, h⟩ | ⟨c81, h⟩
  · refine ro_off (sb (decide_eq_true c81)) rfl rfl ?_
    refine ro_off (sb (decide_eq_true c81)) rfl rfl ?_
    refine ro_off (sb (decide_eq_true c81)) rfl rfl ?_
    refine ro_off (sb (decide_eq_true c81)) rfl rfl ?_
    refine ro_lt (r_pickt (v := .bool true) (decide_eq_true c81) rfl rfl) rfl ?_
    refine ro_lt (r_mv (v := .bool true) rfl) rfl ?_
    refine ro_off (sb (rfl)) rfl rfl ?_
    refine ro_off (sb (rfl)) rfl rfl ?_
    refine ro_off (sb (rfl)) rfl rfl ?_
    refine ro_lt (r_pickt (v := .bool true) (rfl) rfl rfl) rfl ?_
    refine RO.nil (nx ?_)
    refine ex_if_t rfl (rfl) ?_
    refine ex_seq ?_
    refine ex_region ?_
    refine ro_lt (r_as (v := .bool false) rfl) rfl ?_
    refine RO.nil (nx ?_)
    obtain rfl := Option.some.inj h
    refine ex_ret (tq_ret ?_)
    exact ret1 (.inr rfl) rfl rfl (P1.of_flat HS hs rfl)
  refine ro_on (sb (decide_eq_false c81)) ?_
  refine ro_lt (r_lda (HS.boxAt 4 rfl) ag27 rfl rfl) rfl ?_
  refine ro_on (sb (decide_eq_false c81)) ?_
  refine ro_lt (r_lda (HS.boxAt 8 rfl) ag27 rfl rfl) rfl ?_
  replace h := bind_some h; obtain ⟨y82, e83, h⟩ := h
  refine ro_on (sb (decide_eq_false c81)) ?_
  refine ro_hy (o_cf (vs := [.agg #[v51, v53], .agg #[v24, v26]]) HS rfl (c_laws_eqStructure (HS.rd 5 rfl) (HS.rd 6 rfl) (HS.rd 9 rfl) (HS.rd 10 rfl) e83) cf26 rfl) rfl ?_
  rintro _ w84 ⟨rfl, hb, HS⟩
  refine ro_on (sb (decide_eq_false c81)) ?_
  refine ro_lt (r_not rfl) rfl ?_
  refine ro_lt (r_pickf (v := .bool ((!y82))) (decide_eq_false c81) rfl rfl) rfl ?_
  refine ro_lt (r_mv (v := .bool ((!y82))) rfl) rfl ?_
  replace h := ite_some h; rcases h with ⟨c85, h⟩ | ⟨c85, h⟩
  rotate_left
  · refine ro_off (sb (congrArg (!·) (bf c85))) rfl rfl ?_
    refine ro_off (sb (congrArg (!·) (bf c85))) rfl rfl ?_
    refine ro_off (sb (congrArg (!·) (bf c85))) rfl rfl ?_
    refine ro_lt (r_pickt (v := .bool true) (congrArg (!·) (bf c85)) rfl rfl) rfl ?_
    refine RO.nil (nx ?_)
    refine ex_if_t rfl (rfl) ?_
    refine ex_seq ?_
    refine ex_region ?_
    refine ro_lt (r_as (v := .bool false) rfl) rfl ?_
    refine RO.nil (nx ?_)
    obtain rfl := Option.some.inj h
    refine ex_ret (tq_ret ?_)
    exact ret1 (.inr rfl) rfl rfl (P1.of_flat HS hs rfl)
  refine ro_on (sb (congrArg (!·) (c85))) ?_
  refine ro_lt (r_mv (v := .bool y45.2) rfl) rfl ?_
  refine ro_on (sb (congrArg (!·) (c85))) ?_
  refine ro_lt (r_mv (v := .bool y18.2) rfl) rfl ?_
  refine ro_on (sb (congrArg (!·) (c85))) ?_
  refine ro_lt (r_bneq rfl rfl bo4) rfl ?_
  refine ro_lt (r_pickf (v := .bool ((!(decide (y45.2 = y18.2))))) (congrArg (!·) (c85)) rfl rfl) rfl ?_
  refine RO.nil (nx ?_)
  refine ex_if_f rfl (congrArg (!·) (decide_eq_true c63)) ?_
  refine ex_skip (nx ?_)
  refine ex_seq ?_
  refine ex_region ?_
  refine ro_lt (r_as (v := iv 1) rfl) rfl ?_
  refine RO.nil (nx ?_)
  refine ex_seq ?_
  refine ex_region ?_
  refine ro_lt (r_lda (HS.boxAt 4 rfl) ag27 rfl rfl) rfl ?_
  refine ro_lt (r_mv (v := iv 1) rfl) rfl ?_
  replace h := bind_some h; obtain ⟨y86, e87, h⟩ := h
  refine ro_hy (o_cs (vs := [.agg #[v51, v53], iv 1]) (c_laws_markStructure (HS.sel (G := [_, _, _, _, _, _, _, _, _, _, _, _, _]) [5, 5] 0 rfl).self e87) cf29 rfl) rfl ?_
  rintro _ w88 ⟨rfl, HS2⟩
  replace HS := (HS.sel (G := [_, _, _, _, _, _, _, _, _, _, _, _, _]) [5, 5] 0 rfl).from HS2
  refine ro_lt (r_as (v := iv y86.1) rfl) rfl ?_
  refine RO.nil (nx ?_)
  refine ex_seq ?_
  refine ex_region ?_
  refine ro_lt (r_as (v := iv 1) rfl) rfl ?_
  refine RO.nil (nx ?_)
  refine ex_seq ?_
  refine ex_region ?_
  refine ro_lt (r_lda (HS.boxAt 6 rfl) ag27 rfl rfl) rfl ?_
  refine ro_lt (r_mv (v := iv 1) rfl) rfl ?_
  replace h := bind_some h; obtain ⟨y90, e91, h⟩ := h
  refine ro_hy (o_cf (vs := [.agg #[v51, v53], iv 1]) HS rfl (c_laws_heldStructure (HS.rd 0 rfl) (HS.rd 1 rfl) e91) cf30 rfl) rfl ?_
  rintro _ w92 ⟨rfl, hb, HS⟩
  refine ro_lt (r_as (v := iv y90) rfl) rfl ?_
  refine RO.nil (nx ?_)
  refine ex_seq ?_
  refine ex_seq ?_
  refine ex_region ?_
  refine ro_lt (r_mv (v := iv y90) rfl) rfl ?_
  refine ro_lt (r_lss rfl rfl) rfl ?_
  refine RO.nil (nx ?_)
  replace h := ite_some h; rcases h with ⟨c93, h⟩ | ⟨c93, h⟩
  · refine ex_if_t rfl (decide_eq_true c93) ?_
    refine ex_seq ?_
    refine ex_region ?_
    refine ro_lt (r_as (v := .bool false) rfl) rfl ?_
    refine RO.nil (nx ?_)
    obtain rfl := Option.some.inj h
    refine ex_ret (tq_ret ?_)
    exact ret1 (.inr rfl) rfl rfl (P1.of_flat HS hs rfl)
  refine ex_if_f rfl (decide_eq_false c93) ?_
  refine ex_skip (nx ?_)
  refine ex_seq ?_
  refine ex_seq ?_
  refine ex_region ?_
  refine ro_lt (r_mv (v := iv y90) rfl) rfl ?_
  refine ro_lt (r_mv (v := iv y86.1) rfl) rfl ?_
  refine ro_lt (r_neq rfl rfl) rfl ?_
  refine RO.nil (nx ?_)
  replace h := ite_some h; rcases h with ⟨c94, h⟩ | ⟨c94, h⟩
  rotate_left
  · refine ex_if_t rfl (congrArg (!·) (decide_eq_false c94)) ?_
    refine ex_seq ?_
    refine ex_region ?_
    refine ro_lt (r_as (v := .bool false) rfl) rfl ?_
    refine RO.nil (nx ?_)
    obtain rfl := Option.some.inj h
    refine ex_ret (tq_ret ?_)
    exact ret1 (.inr rfl) rfl rfl (P1.of_flat HS hs rfl)
  refine ex_if_f rfl (congrArg (!·) (decide_eq_true c94)) ?_
  refine ex_skip (nx ?_)
  refine ex_seq ?_
  refine ex_region ?_
  refine ro_lt (r_mv (v := iv aVars) rfl) rfl ?_
  refine ro_lt (r_lda (l4.sub HS.sub) ag43 rfl rfl) rfl ?_
  replace h := bind_some h; obtain ⟨y95, e96, h⟩ := h
  refine ro_hy (o_c1 (vs := [.agg #[v_aS0, v_aS1]]) HS (c_laws_toStructure (r_aS0.sub HS.sub) (r_aS1.sub HS.sub) e96) cf24 rfl) rfl ?_
  rintro _ w97 ⟨cs98, rfl, hb, HS⟩
  replace HS := st_K27 HS
  obtain ⟨v100, v102, rfl, HS⟩ := HS
  replace h := bind_some h; obtain ⟨y103, e104, h⟩ := h
  refine ro_hy (o_c2 (vs := [iv aVars, .agg #[v100, v102]]) HS (c_impl_Coerce (HS.rd 0 rfl) (HS.rd 1 rfl) e104) cf28 rfl) rfl ?_
  rintro _ w105 ⟨cs106, cs107, rfl, hb, HS⟩
  replace HS := st_K27 HS
  obtain ⟨v109, v111, rfl, HS⟩ := HS
  obtain rfl := HS.flat 2 rfl rfl
  replace HS := (HS.sel (G := [_, _, _, _, _, _, _, _, _, _, _, _, _, _, _, _, _]) [0, 0] 1 rfl)
  refine ro_lt (r_mv rfl) rfl ?_
  refine ro_lt (r_ext (vs := [.agg #[v109, v111], .bool y103.2]) (i := 0) rfl rfl) rfl ?_
  refine ro_lt (r_ext (vs := [.agg #[v109, v111], .bool y103.2]) (i := 1) rfl rfl) rfl ?_
  refine ro_hy (o_alloc HS (cs := [.slice none 0 0, .slice none 0 0]) ze27 rfl) rfl ?_
  rintro _ w113 ⟨g112, rfl, hb, HS⟩
  refine ro_hy (o_str (off := 0) (vs := [v109, v111]) (l' := [v109, v111]) HS rfl rfl rfl st27 rfl rfl (pl (HS.rd 1 rfl).pl (pl (HS.rd 2 rfl).pl pl0)) rfl) rfl ?_
  rintro _ w115 ⟨rfl, hk, HS⟩
  refine ro_lt (r_as (v := .bool y103.2) rfl) rfl ?_
  refine RO.nil (nx ?_)
  refine ex_seq ?_
  refine ex_seq ?_
  refine ex_region ?_
  refine ro_lt (r_lda (HS.boxAt 0 rfl) ag27 rfl rfl) rfl ?_
  refine ro_lt (r_lda (HS.boxAt 13 rfl) ag27 rfl rfl) rfl ?_
  replace h := bind_some h; obtain ⟨y117, e118, h⟩ := h
  refine ro_hy (o_cf (vs := [.agg #[v109, v111], .agg #[v24, v26]]) HS rfl (c_laws_eqStructure (HS.rd 1 rfl) (HS.rd 2 rfl) (HS.rd 14 rfl) (HS.rd 15 rfl) e118) cf26 rfl) rfl ?_
  rintro _ w119 ⟨rfl, hb, HS⟩
  refine ro_lt (r_not rfl) rfl ?_
  refine ro_lt (r_mv (v := .bool ((!y117))) rfl) rfl ?_
  replace h := ite_some h; rcases h with ⟨c120, h⟩ | ⟨c120, h⟩
  rotate_left
  · refine ro_off (sb (congrArg (!·) (bf c120))) rfl rfl ?_
    refine ro_off (sb (congrArg (!·) (bf c120))) rfl rfl ?_
    refine ro_off (sb (congrArg (!·) (bf c120))) rfl rfl ?_
    refine ro_lt (r_pickt (v := .bool true) (congrArg (!·) (bf c120)) rfl rfl) rfl ?_
    refine RO.nil (nx ?_)
    refine ex_if_t rfl (rfl) ?_
    refine ex_seq ?_
    refine ex_region ?_
    refine ro_lt (r_as (v := .bool false) rfl) rfl ?_
    refine RO.nil (nx ?_)
    obtain rfl := Option.some.inj h
    refine ex_ret (tq_ret ?_)
    exact ret1 (.inr rfl) rfl rfl (P1.of_flat HS hs rfl)
  refine ro_on (sb (congrArg (!·) (c120))) ?_
  refine ro_lt (r_mv (v := .bool y103.2) rfl) rfl ?_
  refine ro_on (sb (congrArg (!·) (c120))) ?_
  refine ro_lt (r_mv (v := .bool y18.2) rfl) rfl ?_
  refine ro_on (sb (congrArg (!·) (c120))) ?_
  refine ro_lt (r_bneq rfl rfl bo4) rfl ?_
  refine ro_lt (r_pickf (v := .bool ((!(decide (y103.2 = y18.2))))) (congrArg (!·) (c120)) rfl rfl) rfl ?_
  refine RO.nil (nx ?_)
  replace h := ite_some h; rcases h with ⟨c121, h⟩ | ⟨c121, h⟩
  rotate_left
  · refine ex_if_t rfl (congrArg (!·) (decide_eq_false c121)) ?_
    refine ex_seq ?_
    refine ex_region ?_
    refine ro_lt (r_as (v := .bool false) rfl) rfl ?_
    refine RO.nil (nx ?_)
    obtain rfl := Option.some.inj h
    refine ex_ret (tq_ret ?_)
    exact ret1 (.inr rfl) rfl rfl (P1.of_flat HS hs rfl)
  refine ex_if_f rfl (congrArg (!·) (decide_eq_true c121)) ?_
  refine ex_skip (nx ?_)
  refine ex_seq ?_
  refine ex_region ?_
  refine ro_lt (r_as (v := iv 1) rfl) rfl ?_
  refine RO.nil (nx ?_)
  refine ex_seq ?_
  refine ex_region ?_
  refine ro_lt (r_lda (HS.boxAt 11 rfl) ag27 rfl rfl) rfl ?_
  refine ro_lt (r_mv (v := iv 1) rfl) rfl ?_
  replace h := bind_some h; obtain ⟨y122, e123, h⟩ := h
  refine ro_hy (o_cf (vs := [.agg #[v51, v53], iv 1]) HS rfl (c_laws_heldStructure (HS.rd 5 rfl) (HS.rd 6 rfl) e123) cf30 rfl) rfl ?_
  rintro _ w124 ⟨rfl, hb, HS⟩
  refine ro_lt (r_as (v := iv y122) rfl) rfl ?_
  refine RO.nil (nx ?_)
  refine ex_seq ?_
  refine ex_seq ?_
  refine ex_region ?_
  refine ro_lt (r_mv (v := iv y122) rfl) rfl ?_
  refine ro_lt (r_lss rfl rfl) rfl ?_
  refine RO.nil (nx ?_)
  replace h := ite_some h; rcases h with ⟨c125, h⟩ | ⟨c125, h⟩
  · refine ex_if_t rfl (decide_eq_true c125) ?_
    refine ex_seq ?_
    refine ex_region ?_
    refine ro_lt (r_as (v := .bool false) rfl) rfl ?_
    refine RO.nil (nx ?_)
    obtain rfl := Option.some.inj h
    refine ex_ret (tq_ret ?_)
    exact ret1 (.inr rfl) rfl rfl (P1.of_flat HS hs rfl)
  refine ex_if_f rfl (decide_eq_false c125) ?_
  refine ex_skip (nx ?_)
  refine ex_seq ?_
  refine ex_seq ?_
  refine ex_region ?_
  refine ro_lt (r_mv (v := iv y122) rfl) rfl ?_
  refine ro_lt (r_mv (v := iv y86.1) rfl) rfl ?_
  refine ro_lt (r_neq rfl rfl) rfl ?_
  refine RO.nil (nx ?_)
  replace h := ite_some h; rcases h with ⟨c126, h⟩ | ⟨c126, h⟩
  rotate_left
  · refine ex_if_t rfl (congrArg (!·) (decide_eq_false c126)) ?_
    refine ex_seq ?_
    refine ex_region ?_
    refine ro_lt (r_as (v := .bool false) rfl) rfl ?_
    refine RO.nil (nx ?_)
    obtain rfl := Option.some.inj h
    refine ex_ret (tq_ret ?_)
    exact ret1 (.inr rfl) rfl rfl (P1.of_flat HS hs rfl)
  refine ex_if_f rfl (congrArg (!·) (decide_eq_true c126)) ?_
  refine ex_skip (nx ?_)
  refine ex_seq ?_
  refine ex_region ?_
  refine ro_lt (r_as (v := .bool true) rfl) rfl ?_
  refine RO.nil (nx ?_)
  obtain rfl := Option.some.inj h
  refine ex_ret ?_
  exact ret1 (.inr rfl) rfl rfl (P1.of_flat HS hs rfl)
end Go.Proofs.Ytpfibofoeblapaa
