/- What can be read as data can be read. -/
import Derived.Test.YtpfibofoeblapaaGen
import Derived.Test.YtpfibofoeblapaaProg
import Derived.ProofKit
import Derived.Lib.SmallJoins
import Derived.SizedLaws
set_option linter.unusedVariables false
set_option linter.unusedSimpArgs false
namespace Go.Proofs.Ytpfibofoeblapaa
open Go Go.RowKit Go.ChangeShapes
section
variable {H : Type} {enc : TypeId × Value → H} {P : Program} {w : World} {base : Nat} {spare : Nat → Bool} {held : Bool} {T e ei : TypeId} {fuel : Nat} {cs : List Value} {x : DataW H × List MemPlace}
/-- None of what it holds is too large. -/
def Wt {H : Type} (P : Program) (T : TypeId) (d : DataW H) : Prop := ∀ k, k ∈ DataW.weights P T d → k ≤ reachBytes
theorem wt_all {P : Program} {e : TypeId} {d : DataW H} : ∀ {l : List (DataW H)}, d ∈ l → (∀ k, k ∈ DataW.weightsAll P e l → k ≤ reachBytes) → Wt P e d
  | [], h, _ => by cases h
  | x :: l, h, hw => by
    simp only [DataW.weightsAll, List.mem_append] at hw
    rcases List.mem_cons.1 h with rfl | h
    · exact fun k hk => hw k (.inl hk)
    · exact wt_all h fun k hk => hw k (.inr hk)
/-- A slice, by its elements. -/
theorem rd_slice {t : Ty} (hT : P.underlying T = some (.slice e)) (hc : P.cellsOf e = t.sz) (hby : 1 ≤ P.bytesOf e) (he : ∀ n cs y, DataW.trod enc P w base spare held n e cs = some y → Wt P e y.1 → ∃ v, Rd t (hp w) v cs)
    (h : DataW.trod enc P w base spare held fuel T cs = some x) (hw : Wt P T x.1) : ∃ v : List t.den, Rd (.sl e t) (hp w) v cs := by
  rcases Deep.open_slice hT h with ⟨rfl, _⟩ | ⟨a, len, cap, m, n, D, Pl, rfl, _, hl, hm, hmm, rfl, hx⟩
  · exact ⟨[], Rd.nil⟩
  have hlm : len ≤ m := by rw [hmm]; split <;> omega
  simp only [Wt, DataW.weights, hT, List.mem_cons, List.mem_append, List.length_map, List.length_range] at hw
  have hlb : len ≤ 281474976710656 := by
    have h1 := hw _ (.inl rfl)
    have h2 : len * 1 ≤ (len + (m - len)) * P.bytesOf e := Nat.mul_le_mul (by omega) hby
    simp only [reachBytes] at h1
    omega
  have hwe : ∀ i, i < len → Wt P e (D i) := fun i hi => wt_all (l := (List.range len).map D) (List.mem_map.2 ⟨i, by simpa using hi, rfl⟩) fun k hk => hw k (.inr (.inl hk))
  rw [hc] at hx
  have key : ∀ (k : Nat) (o : Nat), o + k ≤ len → ∃ (xs : List t.den) (ds : List Value), xs.length = k ∧ RdC (Rd t (hp w)) xs ds ∧ CsH (hp w) (a.add (o * t.sz)) ds := by
    intro k
    induction k with
    | zero => exact fun o _ => ⟨[], [], rfl, rfl, fun j v hv => by simp at hv⟩
    | succ k ih =>
      intro o ho
      obtain ⟨xs, ds, h1, h2, h3⟩ := ih (o + 1) (by omega)
      obtain ⟨cs', h4, h5⟩ := hx o (by omega)
      obtain ⟨v, hv⟩ := he _ _ _ h5 (hwe o (by omega))
      obtain ⟨_, h6, h7⟩ := World.cells?_some h4
      refine ⟨v :: xs, cs' ++ ds, by simp [h1], ⟨cs', ds, rfl, hv, h2⟩, fun j u hu => ?_⟩
      by_cases hj : j < cs'.length
      · rw [List.getElem?_append_left hj] at hu
        rw [← cell_hp, h7 j (by omega)]; exact hu
      · rw [List.getElem?_append_right (by omega)] at hu
        have := h3 _ u hu
        rw [add_add] at this ⊢
        have e : (o + 1) * t.sz + (j - cs'.length) = o * t.sz + j := by rw [Nat.add_mul]; omega
        rwa [e] at this
  obtain ⟨xs, ds, h1, h2, h3⟩ := key len 0 (by omega)
  refine ⟨xs, some a, cap, by rw [h1], by omega, by rw [h1]; exact hlb, .inr ⟨a, ds, rfl, h2, ?_⟩⟩
  have e : a.add (0 * t.sz) = a := by simp [Addr.add]
  rwa [e] at h3
theorem rd_int (hT : P.underlying T = some (.int .i64)) (h : DataW.trod enc P w base spare held fuel T cs = some x) : ∃ v : Int, Rd (.int .i64) (hp w) v cs := by
  obtain ⟨n, rfl, _⟩ := DataW.trod_int hT h
  exact ⟨n, rfl⟩
theorem rd_ints (hT : P.underlying T = some (.slice e)) (he : P.underlying e = some (.int .i64)) (hc : P.cellsOf e = 1) (hby : 1 ≤ P.bytesOf e) (h : DataW.trod enc P w base spare held fuel T cs = some x) (hw : Wt P T x.1) : ∃ v : List Int, Rd (.sl e (.int .i64)) (hp w) v cs :=
  rd_slice (t := .int .i64) hT hc hby (fun _ _ _ h _ => rd_int he h) h hw
/-- A struct of two rows and two numbers. -/
theorem rd_node {f0 f1 f2 f3 : Field} (hT : P.underlying T = some (.struct #[f0, f1, f2, f3])) (h0 : f0.offset = 0 ∧ P.cellsOf f0.type = 1 ∧ P.underlying f0.type = some (.slice ei)) (h1 : f1.offset = 1 ∧ P.cellsOf f1.type = 1 ∧ P.underlying f1.type = some (.slice ei))
    (h2 : f2.offset = 2 ∧ P.cellsOf f2.type = 1 ∧ P.underlying f2.type = some (.int .i64)) (h3 : f3.offset = 3 ∧ P.cellsOf f3.type = 1 ∧ P.underlying f3.type = some (.int .i64)) (hC : P.cellsOf T = 4) (he : P.underlying ei = some (.int .i64)) (hc : P.cellsOf ei = 1) (hby : 1 ≤ P.bytesOf ei)
    (h : DataW.trod enc P w base spare held fuel T cs = some x) (hw : Wt P T x.1) : ∃ v : NodeD, Rd (.prod (.sl ei (.int .i64)) (.prod (.sl ei (.int .i64)) (.prod (.int .i64) (.int .i64)))) (hp w) v cs := by
  obtain ⟨y0, y1, y2, y3, n, rfl, hl, k0, k1, k2, k3⟩ := Go.Joins.trod_struct4 hT h
  rw [h0.1, h0.2.1] at k0
  rw [h1.1, h1.2.1] at k1
  rw [h2.1, h2.2.1] at k2
  rw [h3.1, h3.2.1] at k3
  rw [hC] at hl
  simp only [Wt, DataW.weights, hT, List.map_cons, List.map_nil, DataW.weightsEach, List.mem_append] at hw
  match cs, hl with
  | [c0, c1, c2, c3], _ =>
    obtain ⟨v0, r0⟩ := rd_ints h0.2.2 he hc hby k0 fun k hk => hw k (.inl hk)
    obtain ⟨v1, r1⟩ := rd_ints h1.2.2 he hc hby k1 fun k hk => hw k (.inr (.inl hk))
    obtain ⟨v2, r2⟩ := rd_int h2.2.2 k2
    obtain ⟨v3, r3⟩ := rd_int h3.2.2 k3
    exact ⟨(v0, v1, v2, v3), [c0], [c1, c2, c3], rfl, r0, [c1], [c2, c3], rfl, r1, [c2], [c3], rfl, r2, r3⟩
end
end Go.Proofs.Ytpfibofoeblapaa
