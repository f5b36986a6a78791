/- Memory: what is read, what is owned, and how it goes on. -/
import Derived.Test.YtpfibofoeblapaaDr
set_option linter.unusedVariables false
set_option linter.unusedSimpArgs false
namespace Go.Proofs.Ytpfibofoeblapaa
open Go Go.RowKit

abbrev Hp := Nat → Option Obj
def hp (w : World) : Hp := fun b => w.heap[b]?
def cellH (H : Hp) (a : Addr) : Option Value :=
  match H a.block with
  | some (.cells c _ _) => if a.spot.isSome then none else c[a.off]?
  | _ => none
theorem cell_hp (w : World) (a : Addr) : w.cell? a = cellH (hp w) a := rfl
def Sub (H H' : Hp) : Prop := ∀ b o, H b = some o → H' b = some o
theorem Sub.refl (H : Hp) : Sub H H := fun _ _ h => h
theorem Sub.trans {A B C : Hp} (h : Sub A B) (k : Sub B C) : Sub A C := fun b o e => k b o (h b o e)
theorem cellH_sub {H H' : Hp} (h : Sub H H') {a : Addr} {v : Value} (hc : cellH H a = some v) : cellH H' a = some v := by
  unfold cellH at hc ⊢
  cases hb : H a.block with
  | none => simp [hb] at hc
  | some o => rw [h _ _ hb]; simpa [hb] using hc
/-- The cells from an address on. -/
def CsH (H : Hp) (a : Addr) (cs : List Value) : Prop := ∀ (j : Nat) v, cs[j]? = some v → cellH H (a.add j) = some v
theorem CsH.sub {H H' : Hp} (h : Sub H H') {a : Addr} {cs : List Value} (k : CsH H a cs) : CsH H' a cs := fun j v hv => cellH_sub h (k j v hv)
theorem add_add (a : Addr) (i j : Nat) : (a.add i).add j = a.add (i + j) := by
  unfold Addr.add
  by_cases hi : i = 0
  · subst hi; simp
  · by_cases hj : j = 0
    · subst hj; simp [hi]
    · have : i + j ≠ 0 := by omega
      simp [hi, hj, Nat.add_assoc]
theorem CsH.drop {H : Hp} {a : Addr} {cs ds : List Value} (k : CsH H a (cs ++ ds)) : CsH H (a.add cs.length) ds := fun j v hv => by
  rw [add_add]
  exact k _ _ (by rw [List.getElem?_append_right (by omega)]; simpa using hv)
theorem CsH.take {H : Hp} {a : Addr} {cs ds : List Value} (k : CsH H a (cs ++ ds)) : CsH H a cs := fun j v hv => by
  have hj : j < cs.length := by
    rcases Nat.lt_or_ge j cs.length with h | h
    · exact h
    · rw [List.getElem?_eq_none h] at hv; cases hv
  exact k _ _ (by rw [List.getElem?_append_left hj]; exact hv)
/-- What a pointer leads to. -/
def AtH (H : Hp) (pv : Value) (cs : List Value) : Prop := ∃ a, pv = .pointer (some a) ∧ CsH H a cs
def padd : Value → Nat → Value
  | .pointer (some a), j => .pointer (some (a.add j))
  | v, _ => v
def eaddr : Value → Nat → Value
  | .slice (some a) _ _, j => .pointer (some (a.add j))
  | v, _ => v
theorem AtH.sub {H H' : Hp} (h : Sub H H') {pv : Value} {cs : List Value} (k : AtH H pv cs) : AtH H' pv cs := k.imp fun a ⟨e, c⟩ => ⟨e, c.sub h⟩
theorem AtH.part {H : Hp} {pv : Value} {as bs cs : List Value} (k : AtH H pv (as ++ (bs ++ cs))) : AtH H (padd pv as.length) bs := by
  obtain ⟨a, rfl, c⟩ := k
  exact ⟨_, rfl, c.drop.take⟩
theorem AtH.get {H : Hp} {pv : Value} {cs : List Value} (k : AtH H pv cs) (j : Nat) {v : Value} (hv : cs[j]? = some v) : AtH H (padd pv j) [v] := by
  obtain ⟨a, rfl, c⟩ := k
  refine ⟨_, rfl, fun i u hu => ?_⟩
  cases i with
  | zero => simp at hu; subst hu; rw [add_add]; exact c _ _ hv
  | succ i => simp at hu

/-! ### Kinds of data -/
inductive Ty where
  | int (k : IntKind)
  | bool
  | str
  | sl (e : TypeId) (t : Ty)
  | prod (a b : Ty)
@[reducible] def Ty.den : Ty → Type
  | .int _ => Int
  | .bool => Bool
  | .str => ByteArray
  | .sl _ t => List t.den
  | .prod a b => a.den × b.den
def Ty.sz : Ty → Nat
  | .prod a b => a.sz + b.sz
  | _ => 1
def Ty.dflt : (t : Ty) → t.den
  | .int _ => (0 : Int)
  | .bool => false
  | .str => ByteArray.empty
  | .sl _ _ => []
  | .prod a b => (a.dflt, b.dflt)
def Ty.val : Ty → List Value → Value
  | .prod _ _, cs => .agg cs.toArray
  | _, cs => cs.headD undef
def big : Nat := 281474976710656
def RdC {α : Type} (f : α → List Value → Prop) : List α → List Value → Prop
  | [], cs => cs = []
  | x :: xs, cs => ∃ c1 c2, cs = c1 ++ c2 ∧ f x c1 ∧ RdC f xs c2
def Rd : (t : Ty) → Hp → t.den → List Value → Prop
  | .int k, _, x, cs => cs = [.int k x]
  | .bool, _, x, cs => cs = [.bool x]
  | .str, _, x, cs => cs = [.string x]
  | .sl _ t, H, xs, cs => ∃ A c, cs = [.slice A xs.length c] ∧ xs.length ≤ c ∧ xs.length ≤ big ∧ (xs = [] ∨ ∃ a ds, A = some a ∧ RdC (Rd t H) xs ds ∧ CsH H a ds)
  | .prod a b, H, x, cs => ∃ c1 c2, cs = c1 ++ c2 ∧ Rd a H x.1 c1 ∧ Rd b H x.2 c2
def plainV : Value → Bool
  | .agg _ | .tuple _ => false
  | _ => true
theorem RdC.imp {α : Type} {f g : α → List Value → Prop} (h : ∀ x cs, f x cs → g x cs) : ∀ {xs : List α} {cs : List Value}, RdC f xs cs → RdC g xs cs
  | [], _, k => k
  | _ :: _, _, ⟨c1, c2, e, k1, k2⟩ => ⟨c1, c2, e, h _ _ k1, k2.imp h⟩
theorem Rd.sub {H H' : Hp} (h : Sub H H') : ∀ {t : Ty} {x : t.den} {cs : List Value}, Rd t H x cs → Rd t H' x cs
  | .int _, _, _, k => k
  | .bool, _, _, k => k
  | .str, _, _, k => k
  | .sl _ t, _, _, ⟨A, c, e, h1, h2, k⟩ => ⟨A, c, e, h1, h2, k.imp id fun ⟨a, ds, ea, k1, k2⟩ => ⟨a, ds, ea, k1.imp fun _ _ => Rd.sub h, k2.sub h⟩⟩
  | .prod _ _, _, _, ⟨c1, c2, e, k1, k2⟩ => ⟨c1, c2, e, k1.sub h, k2.sub h⟩
theorem Rd.len {H : Hp} : ∀ {t : Ty} {x : t.den} {cs : List Value}, Rd t H x cs → cs.length = t.sz
  | .int _, _, _, k => by rw [show _ = _ from k]; rfl
  | .bool, _, _, k => by rw [show _ = _ from k]; rfl
  | .str, _, _, k => by rw [show _ = _ from k]; rfl
  | .sl _ t, _, _, ⟨A, c, e, _⟩ => by rw [e]; rfl
  | .prod _ _, _, _, ⟨c1, c2, e, k1, k2⟩ => by rw [e, List.length_append, k1.len, k2.len]; rfl
theorem Rd.plain {H : Hp} : ∀ {t : Ty} {x : t.den} {cs : List Value}, Rd t H x cs → ∀ v ∈ cs, plainV v = true
  | .int _, _, _, k => by rw [show _ = _ from k]; simp [plainV]
  | .bool, _, _, k => by rw [show _ = _ from k]; simp [plainV]
  | .str, _, _, k => by rw [show _ = _ from k]; simp [plainV]
  | .sl _ t, _, _, ⟨A, c, e, _⟩ => by rw [e]; simp [plainV]
  | .prod _ _, _, _, ⟨c1, c2, e, k1, k2⟩ => by
    rw [e]; intro v hv
    rcases List.mem_append.1 hv with h | h
    · exact k1.plain v h
    · exact k2.plain v h
theorem RdC.len {H : Hp} {t : Ty} : ∀ {xs : List t.den} {cs : List Value}, RdC (Rd t H) xs cs → cs.length = xs.length * t.sz
  | [], _, k => by rw [show _ = [] from k]; simp
  | _ :: xs, _, ⟨c1, c2, e, k1, k2⟩ => by rw [e, List.length_append, k1.len, k2.len, List.length_cons, Nat.add_mul]; omega
/-- An element's cells. -/
theorem RdC.at {H : Hp} {t : Ty} {a : Addr} : ∀ {xs : List t.den} {ds : List Value} (i : Nat), RdC (Rd t H) xs ds → CsH H a ds → i < xs.length → ∃ cs, Rd t H (xs.getD i t.dflt) cs ∧ CsH H (a.add (i * t.sz)) cs
  | [], _, i, _, _, h => absurd h (by simp)
  | x :: xs, ds, 0, ⟨c1, c2, e, k1, k2⟩, c, _ => ⟨c1, by simpa using k1, by subst e; simpa [Addr.add] using c.take⟩
  | x :: xs, ds, i + 1, ⟨c1, c2, e, k1, k2⟩, c, h => by
    subst e
    obtain ⟨cs, h1, h2⟩ := RdC.at (a := a.add c1.length) i k2 c.drop (by simpa using h)
    refine ⟨cs, by simpa using h1, ?_⟩
    rw [add_add, k1.len] at h2
    rw [show (i + 1) * t.sz = t.sz + i * t.sz from by rw [Nat.add_mul]; omega]
    exact h2
section
variable {H : Hp} {e : TypeId} {t : Ty} {xs : List t.den} {v : Value} {i : Int}
theorem Rd.idx (h : Rd (.sl e t) H xs [v]) (h0 : 0 ≤ i) (h1 : i < (xs.length : Int)) : ∃ cs, Rd t H (xs.getD i.toNat t.dflt) cs ∧ AtH H (eaddr v (i.toNat * t.sz)) cs := by
  obtain ⟨A, c, ev, _, _, k⟩ := h
  obtain rfl : v = .slice A xs.length c := by simpa using ev
  rcases k with rfl | ⟨a, ds, rfl, k1, k2⟩
  · simp at h1; omega
  · obtain ⟨cs, h2, h3⟩ := k1.at i.toNat k2 (by omega)
    exact ⟨cs, h2, _, rfl, h3⟩
theorem Rd.sl_val (h : Rd (.sl e t) H xs [v]) : ∃ A c, v = .slice A xs.length c ∧ xs.length ≤ c := by
  obtain ⟨A, c, ev, hc, _⟩ := h
  exact ⟨A, c, by simpa using ev, hc⟩
theorem Rd.big (h : Rd (.sl e t) H xs [v]) : (xs.length : Int) ≤ 281474976710656 := by
  obtain ⟨A, c, ev, _, hb, _⟩ := h
  unfold Go.Proofs.Ytpfibofoeblapaa.big at hb; omega
theorem Rd.int {k : IntKind} {xs : List Int} (h : Rd (.sl e (.int k)) H xs [v]) (h0 : 0 ≤ i) (h1 : i < (xs.length : Int)) : AtH H (eaddr v (i.toNat * 1)) [.int k (xs.getD i.toNat 0)] := by
  obtain ⟨cs, h2, h3⟩ := Rd.idx (t := .int k) h h0 h1
  rw [show cs = _ from h2] at h3; exact h3
theorem Rd.boolE {xs : List Bool} (h : Rd (.sl e .bool) H xs [v]) (h0 : 0 ≤ i) (h1 : i < (xs.length : Int)) : AtH H (eaddr v (i.toNat * 1)) [.bool (xs.getD i.toNat false)] := by
  obtain ⟨cs, h2, h3⟩ := Rd.idx (t := .bool) h h0 h1
  rw [show cs = _ from h2] at h3; exact h3
theorem Rd.strE {xs : List ByteArray} (h : Rd (.sl e .str) H xs [v]) (h0 : 0 ≤ i) (h1 : i < (xs.length : Int)) : AtH H (eaddr v (i.toNat * 1)) [.string (xs.getD i.toNat ByteArray.empty)] := by
  obtain ⟨cs, h2, h3⟩ := Rd.idx (t := .str) h h0 h1
  rw [show cs = _ from h2] at h3; exact h3
theorem Rd.slE {e' : TypeId} {t' : Ty} {xs : List (List t'.den)} (h : Rd (.sl e (.sl e' t')) H xs [v]) (h0 : 0 ≤ i) (h1 : i < (xs.length : Int)) : ∃ u, Rd (.sl e' t') H (xs.getD i.toNat []) [u] ∧ AtH H (eaddr v (i.toNat * 1)) [u] := by
  obtain ⟨cs, h2, h3⟩ := Rd.idx (t := .sl e' t') h h0 h1
  obtain ⟨A, c, e, hh⟩ := h2
  subst e
  exact ⟨_, ⟨A, c, rfl, hh⟩, h3⟩
end
theorem AtH.kp {M : Nat → Prop} {w w' : World} {H : Hp} {pv : Value} {cs : List Value} (h : AtH H pv cs) (hs : Sub H (hp w)) (k : Kp M w w') (hM : ∀ b o, H b = some o → ¬ M b) : AtH (hp w') pv cs :=
  h.sub fun b o e => (k.block b (Array.getElem?_eq_some_iff.1 (hs b o e)).1 (hM b o e)).trans (hs b o e)
def Mno : Nat → Prop := fun _ => False
theorem AtH.k0 {w w' : World} {H : Hp} {pv : Value} {cs : List Value} (h : AtH H pv cs) (hs : Sub H (hp w)) (k : Kp Mno w w') : AtH (hp w') pv cs := h.kp hs k fun _ _ _ h => h
theorem Kp.of_below {M : Nat → Prop} {w w' : World} (h : Go.RowKit.Below w.heap.size w w') : Kp M w w' := ⟨h.size, fun k hk _ => h.block k hk⟩
theorem AtH.seg {H : Hp} {pv : Value} {cs : List Value} (k : AtH H pv cs) (off n : Nat) : AtH H (padd pv off) ((cs.drop off).take n) := by
  obtain ⟨a, rfl, c⟩ := k
  refine ⟨_, rfl, fun j v hv => ?_⟩
  rw [add_add]
  have hj : j < n := by
    rcases Nat.lt_or_ge j n with h | h
    · exact h
    · rw [List.getElem?_eq_none (by simp; omega)] at hv; cases hv
  rw [List.getElem?_take_of_lt hj, List.getElem?_drop] at hv
  exact c _ _ hv
theorem Rd.one {H : Hp} {e : TypeId} {t : Ty} {xs : List t.den} {cs : List Value} (h : Rd (.sl e t) H xs cs) : ∃ v, cs = [v] ∧ Rd (.sl e t) H xs [v] := by
  obtain ⟨A, c, rfl, r⟩ := h
  exact ⟨_, rfl, A, c, rfl, r⟩
theorem sb {a b : Bool} (h : a = b) : some a = some b := by rw [h]
end Go.Proofs.Ytpfibofoeblapaa
