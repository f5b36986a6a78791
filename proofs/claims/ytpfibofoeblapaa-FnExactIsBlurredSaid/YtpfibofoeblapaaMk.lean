/- What is owned is handed to a function that writes into it. -/
import Derived.Test.YtpfibofoeblapaaNs
set_option linter.unusedVariables false
set_option linter.unusedSimpArgs false
namespace Go.Proofs.Ytpfibofoeblapaa
open Go Go.RowKit
theorem AtH.uniq {H : Hp} {p : Value} {cs ds : List Value} (h : AtH H p cs) (k : AtH H p ds) (hl : cs.length = ds.length) : cs = ds := by
  obtain ⟨a, rfl, h⟩ := h
  obtain ⟨b, e, k⟩ := k
  obtain rfl : a = b := by simpa using e
  apply List.ext_getElem hl
  intro j h1 h2
  have e1 := h j _ (List.getElem?_eq_getElem h1)
  have e2 := k j _ (List.getElem?_eq_getElem h2)
  rw [e1] at e2
  exact Option.some.inj e2
section
variable {P : Program} {s : Sl} {w w' w0 : World} {H : Hp} {F : List Ob} {d : Option Tmp} {ty : TypeId} {pos : String} {af : Array Edge} {gd : Option (Nat × Bool)} {x y : Operand} {T : TypeId} {t : Ty} {v : Value} {e : TypeId}
/-- An element that is known is taken out. -/
theorem St.opnA {xs : List t.den} {i : Int} {ci : List Value} (HS : St w0 H w (.ow (.sl e t) xs [v] :: F)) (h0 : 0 ≤ i) (h1 : i < (xs.length : Int)) (hl : AtH (hp w) (eaddr v (i.toNat * t.sz)) ci) (hc : ci.length = t.sz) :
    St w0 H w (.ow t (xs.getD i.toNat t.dflt) ci :: .pr (Hole e t xs v i.toNat ci) :: F) := by
  obtain ⟨ci', h⟩ := HS.opn (i := i.toNat) (by omega)
  have ha := h.holeAt 1 rfl
  obtain ⟨_, _, _, _, _, ho, _⟩ := h.own
  have : ci' = ci := ha.uniq hl ((Own.len ho).trans hc.symm)
  subst this
  exact h
/-- A cell of an element. -/
theorem o_setf {xs : List t.den} {i : Int} {off : Nat} {V : Value} (up : t.den → t.den) (HS : St w0 H w (.ow (.sl e t) xs [v] :: F)) (h0 : 0 ≤ i) (h1 : i < (xs.length : Int)) (hT : stB P T 1 = true) (hV : plainV V = true)
    (hup : ∀ (H : Hp) x cs S, Own t H x cs S → off < cs.length ∧ Own t H (up x) (cs.set off V) S) (hx : ev s x = padd (eaddr v (i.toNat * t.sz)) off) (hy : ev s y = V) :
    OpR P ⟨d, .store T x y, ty, pos, af, gd⟩ s w fun u w' => u = undef ∧ (∀ M : Nat → Prop, (∀ g, v.ownBlock = some g → M g) → Kp M w w') ∧ St w0 H w' (.ow (.sl e t) (xs.set i.toNat (up (xs.getD i.toNat t.dflt))) [v] :: F) :=
  o_set1 up HS h0 h1 hT hV hup hx (fun g hg => by
    rw [hg]; show Value.pointer (some ((⟨g, i.toNat * t.sz, none⟩ : Addr).add off)) = _
    unfold Addr.add; split <;> simp_all) hy
end
end Go.Proofs.Ytpfibofoeblapaa
