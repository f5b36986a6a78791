/- Walks by hand. -/
import Derived.Test.YtpfibofoeblapaaSet
import Derived.Test.YtpfibofoeblapaaPlain
import Derived.Test.YtpfibofoeblapaaProg
set_option linter.unusedVariables false
set_option linter.unusedSimpArgs false
namespace Go.Proofs.Ytpfibofoeblapaa
open Go Go.RowKit
section
variable {P : Program} {s : Sl} {w w' w0 : World} {d : Option Tmp} {ty : TypeId} {pos : String} {af : Array Edge} {gd : Option (Nat × Bool)} {x y : Operand} {T T' : TypeId}
def isSl (P : Program) (T : TypeId) : Bool := match P.underlying T with | some (.slice _) => true | _ => false
theorem r_nil {A : Option Addr} {n c : Nat} (hT : isSl P T = true) (hx : ev s x = .slice A n c) (hy : ev s y = .slice none 0 0) : (execOp (ev s) ⟨d, .binOp .eql T x y T', ty, pos, af, gd⟩).run P w = .ok (.value (.bool A.isNone)) w := by
  unfold isSl at hT
  split at hT
  · rename_i e hu
    have h : (Op.equal T (.slice A n c) (.slice none 0 0)).run P w = .ok A.isNone w := by
      unfold Op.equal Op.maxDepth
      rw [show (10000 : Nat) = 9999 + 1 from rfl]
      unfold Op.equalIn
      cases A <;> simp only [Sem.run_bind, run_und hu, Result.andThen_ok, Sem.run_pure, Option.isNone]
    simp [execOp, hx, hy, eqGuard, binOp, go_sem, h]
  · cases hT
end
theorem sl_nil {H : Hp} {e : TypeId} {t : Ty} {xs : List t.den} {v : Value} (h : Rd (.sl e t) H xs [v]) : ∃ A c, v = .slice A xs.length c ∧ (A.isNone = true → xs = []) := by
  obtain ⟨A, c, e, _, _, hh⟩ := h
  refine ⟨A, c, by simpa using e, fun hA => ?_⟩
  rcases hh with h | ⟨a, ds, rfl, _⟩
  · exact h
  · cases hA
theorem isl25 : isSl Try.prog 25 = true := by kernel_rfl
theorem hsl25 : slB Try.prog 25 3 1 = true := by kernel_rfl
theorem hzz3 : apB Try.prog 3 1 := ap_of (b := 8) (z := .int .i64 0) (by kernel_rfl) (by kernel_rfl)
set_option maxRecDepth 20000 in
theorem c_slices_Clone_int_int {w : World} {s : List Int} {v_s : Value} (r_s : Rd (.sl 3 (.int .i64)) (hp w) s [v_s]) {r : List Int} (h : F_slices_Clone_int_int s = some r) : Calls Try.prog 104 [v_s].toArray w (P1 (.sl 3 (.int .i64)) w r) := by
  unfold F_slices_Clone_int_int at h
  replace h := grd_some h; obtain ⟨g1, h⟩ := h
  obtain rfl := Option.some.inj h
  have HS := St.init w
  have hs := Sub.refl (hp w)
  obtain ⟨A, c, e, hA⟩ := sl_nil r_s
  refine calls_ex (n := 8) Try.func104 rfl Try.ntmps104 (Nat.le_of_ble_eq_true rfl) ?_
  refine ex_seq ?_
  refine ex_region ?_
  refine ro_lt (r_as (v := .slice none 0 0) rfl) rfl ?_
  refine RO.nil (nx ?_)
  refine ex_seq ?_
  refine ex_seq ?_
  refine ex_region ?_
  refine ro_lt (r_mv (v := v_s) rfl) rfl ?_
  refine ro_lt (r_nil (A := A) (n := s.length) (c := c) isl25 e rfl) rfl ?_
  refine RO.nil (nx ?_)
  refine ex_if rfl ?_ ?_
  · intro hn
    obtain rfl := hA hn
    refine ex_seq ?_
    refine ex_region ?_
    refine ro_lt (r_as (v := .slice none 0 0) rfl) rfl ?_
    refine RO.nil (nx ?_)
    refine ex_ret (tq_ret ?_)
    exact ret1 (.inr rfl) rfl rfl (P1.of (HS.nil 3 (.int .i64)) hs)
  · intro hn
    refine ex_skip (nx ?_)
    refine ex_seq ?_
    refine ex_region ?_
    refine ro_hy (o_bsv HS (cs := []) hsl25 hzz3 (vs := []) rfl rfl vc0 rfl rfl (by decide)) rfl ?_
    rintro _ w1 ⟨g, rfl, hb, HS⟩
    replace HS := HS.lit0 (.int .i64)
    refine ro_lt (r_mv (v := v_s) rfl) rfl ?_
    refine ro_hy (o_appn (e2 := 3) HS rfl (r_s.sub HS.sub) rfl rfl hsl25 hzz3 (by simpa using g1)) rfl ?_
    rintro v2 w2 ⟨HS, hk⟩
    refine ro_lt (r_as (v := v2) rfl) rfl ?_
    refine RO.nil (nx ?_)
    refine ex_ret ?_
    exact ret1 (.inr rfl) rfl rfl (P1.of HS hs)
end Go.Proofs.Ytpfibofoeblapaa
