/- More rules of one step. -/
import Derived.Test.YtpfibofoeblapaaHs
import Derived.Test.YtpfibofoeblapaaHand
set_option linter.unusedVariables false
set_option linter.unusedSimpArgs false
namespace Go.Proofs.Ytpfibofoeblapaa
open Go Go.RowKit
section
variable {P : Program} {s : Sl} {w w' w0 : World} {H H' : Hp} {F G : List Ob} {d : Option Tmp} {ty : TypeId} {pos : String} {af : Array Edge} {gd : Option (Nat × Bool)} {x y z : Operand} {T T' : TypeId} {t : Ty} {v : Value} {e e' ei : TypeId} {g : Nat} {sh : ByteArray → Value} {m : Grp} {k : ByteArray}
theorem MF.k0 (h : MF g sh m (hp w)) (k : Kp Mno w w') : MF g sh m (hp w') := by
  have hg : g < w.heap.size := by obtain ⟨es, c, e, _⟩ := h; exact hp_lt e
  exact h.at (k.block g hg fun h => h)
theorem r_mnil {i : Nat} (HS : St w0 H w F) (hi : F[i]? = some (.pr (MP ei g sh m))) (hT : isSl P T = true) (hx : ev s x = sh k) (hy : ev s y = .slice none 0 0) :
    (execOp (ev s) ⟨d, .binOp .eql T x y T', ty, pos, af, gd⟩).run P w' = .ok (.value (.bool (decide (mget m k = [])))) w' := by
  obtain ⟨A, c, q, n⟩ := mnil HS k i hi
  rw [← n]
  exact r_nil hT (hx.trans q) hy
theorem r_len0 {n : Nat} (hT : slB P T e' n = true) (hx : ev s x = .slice none 0 0) : (execOp (ev s) ⟨d, .call ⟨.builtin .len, #[x], #[T]⟩, ty, pos, af, gd⟩).run P w = .ok (.value (iv 0)) w :=
  r_len (e := 0) (t := .bool) (H := hp w) (xs := []) Rd.nil hT hx
def cvB (P : Program) (T T' : TypeId) : Bool := (P.underlying T).isSome && (match P.underlying T' with | some (.int .u64) => true | _ => false)
theorem r_cvt {a : Int} (hT : cvB P T T' = true) (h : 0 ≤ a ∧ a ≤ 9223372036854775807) (hx : ev s x = iv a) : (execOp (ev s) ⟨d, .convert T T' x, ty, pos, af, gd⟩).run P w = .ok (.value (.int .u64 a)) w := by
  unfold cvB at hT
  simp only [Bool.and_eq_true] at hT
  obtain ⟨h1, h2⟩ := hT
  split at h2
  · rename_i hu
    have e : IntKind.u64.wrap a = a := by unfold IntKind.wrap; simp [IntKind.bits, IntKind.signed]; omega
    have hk : P.intKind T' = .u64 := by simp [Program.intKind, hu]
    have hr := run_convert_int (P := P) (w := w) T T' .i64 a h1 (by rw [hk]; exact hu)
    rw [hk, e] at hr
    simp only [execOp, hx, Sem.run_bind, Sem.run_pure]
    rw [show iv a = .int .i64 a from rfl, hr]
    rfl
  · cases h2
theorem mapT_of {kt et : TypeId} (h1 : P.underlying T = some (.map kt et)) (h2 : P.underlying kt = some .string) (h3 : zeB P et (.slice none 0 0)) : mapT P T := by
  obtain ⟨i, hi, hz⟩ := h3
  exact ⟨kt, et, h1, h2, fun w => by simp [zeroValue, typeInfo, go_sem, hi, hz]⟩
end
end Go.Proofs.Ytpfibofoeblapaa
