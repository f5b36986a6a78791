/- What a call owns. -/
import Derived.Test.YtpfibofoeblapaaMem
set_option linter.unusedVariables false
set_option linter.unusedSimpArgs false
namespace Go.Proofs.Ytpfibofoeblapaa
open Go Go.RowKit

abbrev Bs := Nat → Prop
def Apart (S T : Bs) : Prop := ∀ b, S b → T b → False
def In (S T : Bs) : Prop := ∀ b, S b → T b
def OwnC {α : Type} (f : α → List Value → Bs → Prop) : List α → List Value → Bs → Prop
  | [], cs, _ => cs = []
  | x :: xs, cs, S => ∃ c1 c2 S1 S2, cs = c1 ++ c2 ∧ In S1 S ∧ In S2 S ∧ Apart S1 S2 ∧ f x c1 S1 ∧ OwnC f xs c2 S2
def Own : (t : Ty) → Hp → t.den → List Value → Bs → Prop
  | .int k, _, x, cs, _ => cs = [.int k x]
  | .bool, _, x, cs, _ => cs = [.bool x]
  | .str, _, x, cs, _ => cs = [.string x]
  | .sl e t, H, xs, cs, S => (cs = [.slice none 0 0] ∧ xs = []) ∨ ∃ g c ds rs S', cs = [.slice (some ⟨g, 0, none⟩) xs.length c] ∧ S g ∧ ¬ S' g ∧ In S' S ∧ H g = some (.cells (ds ++ rs).toArray e (0, 0)) ∧
      (ds ++ rs).length = c * t.sz ∧ xs.length ≤ c ∧ (c ≤ maxLen ∧ xs.length ≤ big) ∧ OwnC (Own t H) xs ds S'
  | .prod a b, H, x, cs, S => ∃ c1 c2 S1 S2, cs = c1 ++ c2 ∧ In S1 S ∧ In S2 S ∧ Apart S1 S2 ∧ Own a H x.1 c1 S1 ∧ Own b H x.2 c2 S2
theorem OwnC.imp {α : Type} {f g : α → List Value → Bs → Prop} : ∀ {xs : List α} {cs : List Value} {S S' : Bs}, (∀ x cs T, In T S → f x cs T → g x cs T) → In S S' → OwnC f xs cs S → OwnC g xs cs S'
  | [], _, _, _, _, _, k => k
  | _ :: _, _, _, _, h, hS, ⟨c1, c2, S1, S2, e, i1, i2, ap, k1, k2⟩ =>
    ⟨c1, c2, S1, S2, e, fun b hb => hS b (i1 b hb), fun b hb => hS b (i2 b hb), ap, h _ _ _ i1 k1, OwnC.imp (fun x cs T hT => h x cs T fun b hb => i2 b (hT b hb)) (fun _ hb => hb) k2⟩
/-- Only what S names is looked at. -/
theorem Own.loc {H H' : Hp} : ∀ {t : Ty} {x : t.den} {cs : List Value} {S S' : Bs}, (∀ b, S b → H' b = H b) → In S S' → Own t H x cs S → Own t H' x cs S'
  | .int _, _, _, _, _, _, _, k => k
  | .bool, _, _, _, _, _, _, k => k
  | .str, _, _, _, _, _, _, k => k
  | .sl e t, _, _, _, _, h, hS, .inl k => .inl k
  | .sl e t, _, _, _, _, h, hS, .inr ⟨g, c, ds, rs, T, e1, hg, hn, hT, hb, k1, k2, k3, k4⟩ =>
    .inr ⟨g, c, ds, rs, T, e1, hS g hg, hn, fun b hb => hS b (hT b hb), (h g hg).trans hb, k1, k2, k3, k4.imp (fun _ _ _ hU k => k.loc (fun b hb => h b (hT b (hU b hb))) fun _ hb => hb) fun _ hb => hb⟩
  | .prod _ _, _, _, _, _, h, hS, ⟨c1, c2, S1, S2, e, i1, i2, ap, k1, k2⟩ =>
    ⟨c1, c2, S1, S2, e, fun b hb => hS b (i1 b hb), fun b hb => hS b (i2 b hb), ap, k1.loc (fun b hb => h b (i1 b hb)) fun _ hb => hb, k2.loc (fun b hb => h b (i2 b hb)) fun _ hb => hb⟩
theorem OwnC.rd {H H' : Hp} {t : Ty} (h : ∀ {x : t.den} {cs : List Value} {S : Bs}, Own t H x cs S → (∀ b, S b → H' b = H b) → Rd t H' x cs) : ∀ {xs : List t.den} {cs : List Value} {S : Bs}, OwnC (Own t H) xs cs S → (∀ b, S b → H' b = H b) → RdC (Rd t H') xs cs
  | [], _, _, k, _ => k
  | _ :: _, _, _, ⟨c1, c2, S1, S2, e, i1, i2, ap, k1, k2⟩, hS => ⟨c1, c2, e, h k1 fun b hb => hS b (i1 b hb), OwnC.rd h k2 fun b hb => hS b (i2 b hb)⟩
theorem csH_block {H : Hp} {g : Nat} {ds rs : List Value} {e : TypeId} {f : Nat × Nat} (h : H g = some (.cells (ds ++ rs).toArray e f)) : CsH H ⟨g, 0, none⟩ ds := by
  intro j v hv
  have hj : j < ds.length := by
    rcases Nat.lt_or_ge j ds.length with h | h
    · exact h
    · rw [List.getElem?_eq_none h] at hv; cases hv
  have hadd : (⟨g, 0, none⟩ : Addr).add j = ⟨g, j, none⟩ := by unfold Addr.add; split <;> simp_all
  rw [hadd]
  unfold cellH
  simp only [h]
  simpa [List.getElem?_append_left hj] using hv
theorem Own.rd {H H' : Hp} : ∀ {t : Ty} {x : t.den} {cs : List Value} {S : Bs}, Own t H x cs S → (∀ b, S b → H' b = H b) → Rd t H' x cs
  | .int _, _, _, _, k, _ => k
  | .bool, _, _, _, k, _ => k
  | .str, _, _, _, k, _ => k
  | .sl e t, _, _, _, .inl ⟨k, k'⟩, _ => ⟨none, 0, by subst k'; exact k, by subst k'; simp, by subst k'; simp, .inl k'⟩
  | .sl e t, _, _, _, .inr ⟨g, c, ds, rs, T, e1, hg, hn, hT, hb, k1, k2, k3, k4⟩, hS =>
    ⟨some ⟨g, 0, none⟩, c, e1, k2, k3.2, .inr ⟨_, ds, rfl, OwnC.rd (fun k h => Own.rd k h) k4 fun b hb => hS b (hT b hb), csH_block ((hS g hg).trans hb)⟩⟩
  | .prod _ _, _, _, _, ⟨c1, c2, S1, S2, e, i1, i2, ap, k1, k2⟩, hS => ⟨c1, c2, e, k1.rd fun b hb => hS b (i1 b hb), k2.rd fun b hb => hS b (i2 b hb)⟩
theorem Own.plain {H : Hp} {t : Ty} {x : t.den} {cs : List Value} {S : Bs} (k : Own t H x cs S) : ∀ v ∈ cs, plainV v = true := (k.rd (H' := H) fun _ _ => rfl).plain
theorem Own.len {H : Hp} {t : Ty} {x : t.den} {cs : List Value} {S : Bs} (k : Own t H x cs S) : cs.length = t.sz := (k.rd (H' := H) fun _ _ => rfl).len
theorem OwnC.len {H : Hp} {t : Ty} {xs : List t.den} {cs : List Value} {S : Bs} (k : OwnC (Own t H) xs cs S) : cs.length = xs.length * t.sz := (OwnC.rd (H' := H) (fun k h => Own.rd k h) k fun _ _ => rfl).len
theorem OwnC.app {α : Type} {f : α → List Value → Bs → Prop} (hm : ∀ x cs T T', In T T' → f x cs T → f x cs T') : ∀ {xs ys : List α} {cs ds : List Value} {S T U : Bs}, OwnC f xs cs S → OwnC f ys ds T → Apart S T → In S U → In T U → OwnC f (xs ++ ys) (cs ++ ds) U
  | [], ys, cs, ds, S, T, U, k, l, _, _, hT => by
    rw [show cs = [] from k]
    exact l.imp (fun _ _ _ _ k => k) hT
  | x :: xs, ys, cs, ds, S, T, U, ⟨c1, c2, S1, S2, e, i1, i2, ap, k1, k2⟩, l, hA, hS, hT => by
    subst e
    refine ⟨c1, c2 ++ ds, S1, fun b => S2 b ∨ T b, by simp, fun b hb => hS b (i1 b hb), ?_, ?_, k1, OwnC.app hm k2 l (fun b h1 h2 => hA b (i2 b h1) h2) (fun b hb => .inl hb) (fun b hb => .inr hb)⟩
    · rintro b (h | h)
      · exact hS b (i2 b h)
      · exact hT b h
    · rintro b h1 (h | h)
      · exact ap b h1 h
      · exact hA b (i1 b h1) h

/-! ### Objects -/
inductive Ob where
  | ow (t : Ty) (x : t.den) (cs : List Value)
  | bx (g : Nat) (T : TypeId) (cs : List Value)
  | pr (A : Hp → Bs → Prop)
def Ob.A : Ob → Hp → Bs → Prop
  | .ow t x cs, H, S => Own t H x cs S
  | .bx g T cs, H, S => S g ∧ H g = some (.cells cs.toArray T (0, 0))
  | .pr A, H, S => ∀ H' S', (∀ b, S b → H' b = H b) → In S S' → A H' S'
theorem Ob.A.loc {o : Ob} {H H' : Hp} {S S' : Bs} (k : o.A H S) (h : ∀ b, S b → H' b = H b) (hS : In S S') : o.A H' S' := by
  cases o with
  | ow t x cs => exact Own.loc h hS k
  | bx g T cs => exact ⟨hS g k.1, (h g k.1).trans k.2⟩
  | pr A => exact fun H'' S'' h' hS' => k H'' S'' (fun b hb => (h' b (hS b hb)).trans (h b hb)) fun b hb => hS' b (hS b hb)
def Owns (H : Hp) : List Ob → Bs → Prop
  | [], _ => True
  | o :: l, S => ∃ S1 S2, In S1 S ∧ In S2 S ∧ Apart S1 S2 ∧ o.A H S1 ∧ Owns H l S2
theorem Owns.loc {H H' : Hp} : ∀ {l : List Ob} {S S' : Bs}, Owns H l S → (∀ b, S b → H' b = H b) → In S S' → Owns H' l S'
  | [], _, _, _, _, _ => trivial
  | o :: l, _, _, ⟨S1, S2, i1, i2, ap, k, r⟩, h, hS => ⟨S1, S2, fun b hb => hS b (i1 b hb), fun b hb => hS b (i2 b hb), ap, k.loc (fun b hb => h b (i1 b hb)) (fun _ hb => hb), r.loc (fun b hb => h b (i2 b hb)) (fun _ hb => hb)⟩
theorem Owns.swap {H : Hp} {a b : Ob} {l : List Ob} {S : Bs} : Owns H (a :: b :: l) S → Owns H (b :: a :: l) S := by
  rintro ⟨S1, S2, i1, i2, ap, k, T1, T2, j1, j2, ap', k', r⟩
  refine ⟨T1, fun b => S1 b ∨ T2 b, fun b hb => i2 b (j1 b hb), ?_, ?_, k', S1, T2, fun b hb => .inl hb, fun b hb => .inr hb, fun b h1 h2 => ap b h1 (j2 b h2), k, r⟩
  · rintro b (h | h)
    · exact i1 b h
    · exact i2 b (j2 b h)
  · rintro b h1 (h | h)
    · exact ap b h (j1 b h1)
    · exact ap' b h1 h
theorem Owns.tail {H : Hp} {a : Ob} {l l' : List Ob} {S : Bs} (h : ∀ T, Owns H l T → Owns H l' T) : Owns H (a :: l) S → Owns H (a :: l') S := by
  rintro ⟨S1, S2, i1, i2, ap, k, r⟩
  exact ⟨S1, S2, i1, i2, ap, k, h _ r⟩
/-- Object number i, and the others. -/
theorem Owns.front {H : Hp} : ∀ {l : List Ob} {S : Bs} (i : Nat) {o : Ob}, l[i]? = some o → Owns H l S → Owns H (o :: l.eraseIdx i) S
  | [], _, i, o, h, _ => by simp at h
  | a :: l, _, 0, o, h, k => by simp at h; subst h; simpa using k
  | a :: l, _, i + 1, o, h, k => by
    have : Owns H (a :: o :: l.eraseIdx i) _ := k.tail fun T r => Owns.front i (by simpa using h) r
    simpa using this.swap
theorem Owns.back {H : Hp} : ∀ {l : List Ob} {S : Bs} (i : Nat) {o o' : Ob}, l[i]? = some o → Owns H (o' :: l.eraseIdx i) S → Owns H (l.set i o') S
  | [], _, i, o, _, h, _ => by simp at h
  | a :: l, _, 0, o, o', h, k => by simpa using k
  | a :: l, S, i + 1, o, o', h, k => by
    have k : Owns H (o' :: a :: l.eraseIdx i) S := by simpa using k
    simpa using (k.swap.tail (l' := l.set i o') fun T r => Owns.back i (by simpa using h) r)
theorem Owns.erase {H : Hp} {l : List Ob} {S : Bs} (i : Nat) (k : Owns H l S) : Owns H (l.eraseIdx i) S := by
  cases h : l[i]? with
  | none => rw [List.eraseIdx_of_length_le (by simpa using h)]; exact k
  | some o =>
    obtain ⟨S1, S2, i1, i2, ap, _, r⟩ := k.front i h
    exact r.loc (fun _ _ => rfl) i2

/-! ### The state of a call: entered at w0; H is what nobody writes; F is what it owns -/
structure St (w0 : World) (H : Hp) (w : World) (F : List Ob) : Prop where
  os : w.os = w0.os
  tape : w.tape = w0.tape
  out : w.output = w0.output
  size : w0.heap.size ≤ w.heap.size
  sub : Sub H (hp w)
  own : Owns (hp w) F (fun b => H b = none ∧ b < w.heap.size)
theorem hp_lt {w : World} {b : Nat} {o : Obj} (h : hp w b = some o) : b < w.heap.size := (Array.getElem?_eq_some_iff.1 h).1
theorem hp_none {w : World} {b : Nat} (h : w.heap.size ≤ b) : hp w b = none := Array.getElem?_eq_none h
theorem Below.sub' {w w' : World} (h : Below w.heap.size w w') : Sub (hp w) (hp w') := fun b o e => (h.block b (hp_lt e)).trans e
section
variable {w0 w w' : World} {H : Hp} {F : List Ob} {t : Ty} {x : t.den} {cs : List Value} {o o' : Ob}
theorem St.init (w : World) : St w (hp w) w [] := ⟨rfl, rfl, rfl, Nat.le_refl _, Sub.refl _, trivial⟩
/-- All that was there is as it was. -/
theorem St.below (h : St w0 H w F) (k : Sub (hp w0) H) : Below w0.heap.size w0 w :=
  ⟨h.os, h.tape, h.out, h.size, fun b hb => by
    have e : hp w0 b = some w0.heap[b] := Array.getElem?_eq_getElem hb
    exact (h.sub _ _ (k _ _ e)).trans e.symm⟩
theorem St.fresh_none (h : St w0 H w F) {b : Nat} (hb : w.heap.size ≤ b) : H b = none := by
  cases e : H b with
  | none => rfl
  | some o => exact absurd (hp_lt (h.sub _ _ e)) (by omega)
/-- A step that turns nothing that is there. -/
theorem St.ext (h : St w0 H w F) (k : Below w.heap.size w w') : St w0 H w' F :=
  ⟨k.os.trans h.os, k.tape.trans h.tape, k.output.trans h.out, Nat.le_trans h.size k.size, h.sub.trans (Below.sub' k), h.own.loc (fun b hb => k.block b hb.2) fun b hb => ⟨hb.1, Nat.lt_of_lt_of_le hb.2 k.size⟩⟩
/-- .. and makes something new. -/
theorem St.new (h : St w0 H w F) (k : Below w.heap.size w w') {S : Bs} (hS : ∀ b, S b → w.heap.size ≤ b ∧ b < w'.heap.size) (ho : o.A (hp w') S) : St w0 H w' (o :: F) := by
  have h' := h.ext k
  refine ⟨h'.os, h'.tape, h'.out, h'.size, h'.sub, S, fun b => H b = none ∧ b < w.heap.size, fun b hb => ⟨h.fresh_none (hS b hb).1, (hS b hb).2⟩, fun b hb => ⟨hb.1, Nat.lt_of_lt_of_le hb.2 k.size⟩, fun b h1 h2 => by have := (hS b h1).1; omega, ho, ?_⟩
  exact h.own.loc (fun b hb => k.block b hb.2) fun b hb => hb
/-- The first object turns. -/
theorem St.turn (h : St w0 H w (o :: F)) (hos : w'.os = w.os) (htape : w'.tape = w.tape) (hout : w'.output = w.output) (hsz : w.heap.size ≤ w'.heap.size)
    (k : ∀ S, o.A (hp w) S → (∀ b, S b → b < w.heap.size) → (∀ b, b < w.heap.size → ¬ S b → w'.heap[b]? = w.heap[b]?) ∧ o'.A (hp w') (fun b => S b ∨ (w.heap.size ≤ b ∧ b < w'.heap.size))) : St w0 H w' (o' :: F) := by
  obtain ⟨S1, S2, i1, i2, ap, ho, r⟩ := h.own
  obtain ⟨k1, k2⟩ := k S1 ho fun b hb => (i1 b hb).2
  refine ⟨hos.trans h.os, htape.trans h.tape, hout.trans h.out, Nat.le_trans h.size hsz, fun b v e => ?_, ?_⟩
  · exact (k1 b (hp_lt (h.sub _ _ e)) fun hs => by rw [(i1 b hs).1] at e; cases e).trans (h.sub _ _ e)
  · refine ⟨_, S2, ?_, fun b hb => ⟨(i2 b hb).1, Nat.lt_of_lt_of_le (i2 b hb).2 hsz⟩, ?_, k2, r.loc (fun b hb => k1 b (i2 b hb).2 fun hs => ap b hs hb) fun _ hb => hb⟩
    · rintro b (hb | hb)
      · exact ⟨(i1 b hb).1, Nat.lt_of_lt_of_le (i1 b hb).2 hsz⟩
      · exact ⟨h.fresh_none hb.1, hb.2⟩
    · rintro b (hb | hb) h2
      · exact ap b hb h2
      · have := (i2 b h2).2; omega
theorem St.with_own {G : List Ob} (h : St w0 H w F) (k : Owns (hp w) G (fun b => H b = none ∧ b < w.heap.size)) : St w0 H w G := ⟨h.os, h.tape, h.out, h.size, h.sub, k⟩
theorem St.front (h : St w0 H w F) (i : Nat) (hi : F[i]? = some o) : St w0 H w (o :: F.eraseIdx i) := h.with_own (h.own.front i hi)
theorem St.back (i : Nat) (hi : F[i]? = some o) (h : St w0 H w (o' :: F.eraseIdx i)) : St w0 H w (F.set i o') := h.with_own (h.own.back i hi)
theorem St.erase (h : St w0 H w F) (i : Nat) : St w0 H w (F.eraseIdx i) := h.with_own (h.own.erase i)
theorem St.own1 {G : List Ob} (h : St w0 H w F) (f : ∀ S, Owns (hp w) F S → Owns (hp w) G S) : St w0 H w G := h.with_own (f _ h.own)
/-- What is owned can be read. -/
theorem St.rd (h : St w0 H w F) (i : Nat) (hi : F[i]? = some (.ow t x cs)) : Rd t (hp w) x cs := by
  obtain ⟨S1, S2, _, _, _, ho, _⟩ := h.own.front i hi
  exact Own.rd ho fun _ _ => rfl
theorem St.box (h : St w0 H w F) (i : Nat) {g : Nat} {T : TypeId} (hi : F[i]? = some (.bx g T cs)) : hp w g = some (.cells cs.toArray T (0, 0)) := by
  obtain ⟨S1, S2, _, _, _, ho, _⟩ := h.own.front i hi
  exact ho.2
theorem St.boxAt (h : St w0 H w F) (i : Nat) {g : Nat} {T : TypeId} (hi : F[i]? = some (.bx g T cs)) : AtH (hp w) (.pointer (some ⟨g, 0, none⟩)) cs :=
  ⟨_, rfl, csH_block (rs := []) (e := T) (f := (0, 0)) (by simpa using h.box i hi)⟩
/-- From now on nobody writes it. -/
theorem St.freeze (h : St w0 H w (.ow t x cs :: F)) : ∃ H', Sub H H' ∧ Rd t H' x cs ∧ St w0 H' w F := by
  obtain ⟨S1, S2, i1, i2, ap, ho, r⟩ := h.own
  classical
  let H' : Hp := fun b => if S1 b then hp w b else H b
  have hsub : Sub H H' := fun b v e => by
    show (if S1 b then hp w b else H b) = some v
    split
    · rename_i hs; rw [(i1 b hs).1] at e; cases e
    · exact e
  refine ⟨H', hsub, Own.rd ho fun b hb => if_pos hb, h.os, h.tape, h.out, h.size, fun b v e => ?_, r.loc (fun _ _ => rfl) fun b hb => ⟨?_, (i2 b hb).2⟩⟩
  · by_cases hs : S1 b
    · rw [show H' b = hp w b from if_pos hs] at e; exact e
    · rw [show H' b = H b from if_neg hs] at e; exact h.sub _ _ e
  · show (if S1 b then hp w b else H b) = none
    rw [if_neg fun hs => ap b hs hb]; exact (i2 b hb).1
theorem St.split {a b : Ty} {x : (Ty.prod a b).den} (h : St w0 H w (.ow (.prod a b) x cs :: F)) : ∃ c1 c2, cs = c1 ++ c2 ∧ St w0 H w (.ow a x.1 c1 :: .ow b x.2 c2 :: F) := by
  obtain ⟨S1, S2, i1, i2, ap, ⟨c1, c2, T1, T2, e, j1, j2, ap', k1, k2⟩, r⟩ := h.own
  refine ⟨c1, c2, e, h.os, h.tape, h.out, h.size, h.sub, T1, fun b => T2 b ∨ S2 b, fun b hb => i1 b (j1 b hb), ?_, ?_, k1, T2, S2, fun b hb => .inl hb, fun b hb => .inr hb, fun b h1 h2 => ap b (j2 b h1) h2, k2, r⟩
  · rintro b (hb | hb)
    · exact i1 b (j2 b hb)
    · exact i2 b hb
  · rintro b h1 (hb | hb)
    · exact ap' b h1 hb
    · exact ap b (j1 b h1) hb
theorem St.join {a b : Ty} {x : a.den} {y : b.den} {c1 c2 : List Value} (h : St w0 H w (.ow a x c1 :: .ow b y c2 :: F)) : St w0 H w (.ow (.prod a b) (x, y) (c1 ++ c2) :: F) := by
  obtain ⟨S1, S2, i1, i2, ap, k1, T1, T2, j1, j2, ap', k2, r⟩ := h.own
  refine ⟨h.os, h.tape, h.out, h.size, h.sub, fun b => S1 b ∨ T1 b, T2, ?_, fun b hb => i2 b (j2 b hb), ?_, ⟨c1, c2, S1, T1, rfl, fun b hb => .inl hb, fun b hb => .inr hb, fun b h1 h2 => ap b h1 (j1 b h2), k1, k2⟩, r⟩
  · rintro b (hb | hb)
    · exact i1 b hb
    · exact i2 b (j1 b hb)
  · rintro b (hb | hb) h2
    · exact ap b hb (j2 b h2)
    · exact ap' b hb h2
/-- Numbers and the like take no memory. -/
def flat : Ty → Bool
  | .int _ | .bool | .str => true
  | _ => false
theorem St.add (h : St w0 H w F) (hf : flat t = true) (hr : Rd t H x cs) : St w0 H w (.ow t x cs :: F) := by
  refine ⟨h.os, h.tape, h.out, h.size, h.sub, fun _ => False, _, fun _ hb => hb.elim, fun _ hb => hb, fun _ hb => hb.elim, ?_, h.own⟩
  cases t <;> first | exact hr | cases hf
end
end Go.Proofs.Ytpfibofoeblapaa
