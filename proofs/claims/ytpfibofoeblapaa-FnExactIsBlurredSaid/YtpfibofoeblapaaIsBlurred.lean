/- The law FnExactIsBlurred returns true for every input, and its arguments read afterwards as they read before.
   Conditions: none beyond those of the given row (its reach). -/
import Derived.Test.YtpfibofoeblapaaRows
import Derived.Test.YtpfibofoeblapaaRd
import Derived.Test.YtpfibofoeblapaaBk
import Derived.Test.YtpfibofoeblapaaCB
import Derived.WalkKit
import Derived.ProofKit
import Derived.OpenShut
import Derived.ChangeOld
import Derived.Below
set_option linter.unusedVariables false
set_option linter.unusedSimpArgs false
namespace Go.Proofs.Ytpfibofoeblapaa
open Go Go.ChangeShapes Go.WideShapes Go.ChangeAt Go.RowKit
theorem lg_of {e ei : TypeId} {H : Hp} {s : SD} {v0 v1 : Value} (h0 : Rd (.sl e (.prod (.sl ei (.int .i64)) (.prod (.sl ei (.int .i64)) (.prod (.int .i64) (.int .i64))))) H s.1 [v0]) (h1 : Rd (.sl ei (.int .i64)) H s.2 [v1]) : Lg s := by
  have key : ∀ i, i < s.1.length → (s.1.getD i dN).1.length ≤ 281474976710656 ∧ (s.1.getD i dN).2.1.length ≤ 281474976710656 := by
    intro i hi
    obtain ⟨cs, hr, _⟩ := h0.idx (i := (i : Int)) (by omega) (by omega)
    obtain ⟨c1, c2, rfl, ⟨A, c, e1, _, hb, _⟩, ⟨d1, d2, rfl, ⟨A', c', e2, _, hb', _⟩, _⟩⟩ := hr
    have hb : (s.1.getD i dN).1.length ≤ 281474976710656 := hb
    have hb' : (s.1.getD i dN).2.1.length ≤ 281474976710656 := hb'
    exact ⟨hb, hb'⟩
  refine ⟨by have := h0.big; omega, by have := h1.big; omega, fun i => ?_, fun i => ?_⟩
  · by_cases hi : i < s.1.length
    · exact (key i hi).1
    · simp [List.getD_eq_getElem?_getD, List.getElem?_eq_none (Nat.le_of_not_lt hi)]
  · by_cases hi : i < s.1.length
    · exact (key i hi).2
    · simp [List.getD_eq_getElem?_getD, List.getElem?_eq_none (Nat.le_of_not_lt hi)]
namespace fnExactIsBlurred
theorem own : ownKnob Try.prog.godebug = none := by kernel_rfl
theorem laidOut : laidOutB Try.prog = true := by kernel_rfl
set_option maxRecDepth 100000 in
theorem lifted (os : Os) (started : os.Started) (H : Type) (enc : TypeId × Value → H) :
    ReturnsInHanded {} Try.checked os 6 .any (Rows.fnExactIsBlurredSpec.pre6 enc Try.prog Try.f6 Rows.fnExactIsBlurredRow.domain false) (Rows.fnExactIsBlurredSpec.post enc Try.prog Try.f6 false true false false) := by
  refine returnsInHanded_of_change_sized (C := Try.checked) own started (by kernel_rfl) Try.func6
    (ChangeSpec.witness6 (enc := enc) (C := Try.checked) false ⟨#[], #[.agg #[.slice none 0 0, .slice none 0 0]], []⟩ 8 (by kernel_rfl) (by kernel_rfl) (by kernel_rfl) (by kernel_rfl)) ?_
  intro W base args ds gs before hval0 hW hcnd hwt _
  have hval : ∀ (j : Nat) t v, Try.f6.params[j]? = some t → args[j]? = some v → Value.okWide Try.prog W .any base t v := hval0
  have hW' := hW
  obtain ⟨p, q, hA0, hV, rfl, hfz, hnd⟩ := hW
  have hA : DataW.TrodAll enc Try.prog W 0 (fun _ => true) true Try.f6.params.toList args.toList ds p := hA0
  have hwt : (DataW.weightsEach Try.prog (Try.f6.params.toList ++ []) (ds ++ gs)).all (· ≤ reachBytes) = true := hwt
  rw [Try.params6] at hA hval hwt
  obtain ⟨v1, vs1, d1, ds1, p1, q1, hargs, rfl, rfl, h1, r1⟩ := trodAll_cons hA
  obtain ⟨rfl, rfl, rfl⟩ := trodAll_nil r1
  obtain rfl : args = #[v1] := by cases args; simp_all
  obtain ⟨rfl, rfl⟩ := trodVars_none hV
  have k1 := h1
  have lt1 : ∀ x ∈ p1, x.block < W.heap.size := by obtain ⟨m, hm⟩ := k1; exact DataW.trod_lt m _ _ _ hm
  obtain ⟨c0, c1, y0, y1, n, rfl, rfl, rfl, t0, t1⟩ := Go.Joins.open_agg2 Try.underlying43 (by kernel_rfl) (by kernel_rfl) (hval 0 43 v1 rfl rfl) h1
  simp only [List.nil_append, List.append_nil, DataW.weightsEach, DataW.weights, Try.underlying43, List.map_cons, List.map_nil, List.all_append, Bool.and_eq_true, List.all_eq_true, decide_eq_true_eq] at hwt
  obtain ⟨x0, rd0⟩ := rd_slice (t := .prod (.sl 3 (.int .i64)) (.prod (.sl 3 (.int .i64)) (.prod (.int .i64) (.int .i64)))) (H := H) Try.underlying41 (by kernel_rfl) (Nat.le_of_ble_eq_true (by kernel_rfl)) (fun _ _ _ h hw => rd_node (ei := 3) Try.underlying123 ⟨rfl, by kernel_rfl, Try.underlying25⟩ ⟨rfl, by kernel_rfl, Try.underlying25⟩ ⟨rfl, by kernel_rfl, Try.underlying3⟩ ⟨rfl, by kernel_rfl, Try.underlying3⟩ (by kernel_rfl) Try.underlying3 (by kernel_rfl) (Nat.le_of_ble_eq_true (by kernel_rfl)) h hw) t0 (fun k hk => by simp only [hk, hwt])
  obtain ⟨x1, rd1⟩ := rd_ints (H := H) Try.underlying25 Try.underlying3 (by kernel_rfl) (Nat.le_of_ble_eq_true (by kernel_rfl)) t1 (fun k hk => by simp only [hk, hwt])
  clear hA0 hval0
  refine (c_laws_FnExactIsBlurred (aS := (x0, x1)) rd0 rd1 (law_isBlurred (lg_of (s := (x0, x1)) rd0 rd1))).mono fun e W' h => ?_
  obtain ⟨cs, rfl, bel, S, _, ho⟩ := h
  obtain rfl : cs = [.bool true] := ho
  exact ⟨_, rfl, _, _, _, [], _, [], hW', trodAll_mk1 (shut_bool Try.underlying4 _), trodAll_cons_mk (Below.trod laidOut (by kernel_rfl) (of_decide_eq_true (by kernel_rfl)) k1 bel lt1) trodAll_mk0, rfl, bel.frame _, fun h => by cases h⟩
theorem over : Rows.fnExactIsBlurredRow.holds Try.pinned (OpenSpec.ofChange Rows.fnExactIsBlurredSpec) :=
  OpenClaim.holds_of_wide 6 Try.f6 rfl rfl rfl rfl rfl rfl rfl ⟨rfl, rfl, rfl, rfl, rfl⟩ rfl rfl rfl rfl rfl (by kernel_rfl) Try.func6 (by kernel_rfl)
    (of_decide_eq_true (by kernel_rfl)) (by unfold Func.isWrapper; first | (rw [if_pos (by decide +kernel)]; kernel_rfl) | (rw [if_neg (by decide +kernel)]; exact ⟨rfl, rfl⟩))
    (fun os started H enc _ => lifted os started H enc)
theorem proved : Rows.FnExactIsBlurredSaid := over
#print axioms proved
end fnExactIsBlurred
end Go.Proofs.Ytpfibofoeblapaa
