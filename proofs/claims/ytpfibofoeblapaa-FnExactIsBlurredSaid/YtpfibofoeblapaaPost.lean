/- Contracts: what a call hands back. -/
import Derived.Test.YtpfibofoeblapaaApp
set_option linter.unusedVariables false
set_option linter.unusedSimpArgs false
namespace Go.Proofs.Ytpfibofoeblapaa
open Go Go.RowKit

def Frsh (w w' : World) (S : Bs) : Prop := ∀ b, S b → w.heap.size ≤ b ∧ b < w'.heap.size
/-- One result. -/
def P1 (t : Ty) (w : World) (r : t.den) (e : Ending) (w' : World) : Prop := ∃ cs, e = .returned (t.val cs) ∧ Below w.heap.size w w' ∧ ∃ S, Frsh w w' S ∧ Own t (hp w') r cs S
/-- Two, three results. -/
def P2 (t u : Ty) (w : World) (r : t.den × u.den) (e : Ending) (w' : World) : Prop := ∃ cs ds, e = .returned (.tuple #[t.val cs, u.val ds]) ∧ Below w.heap.size w w' ∧ ∃ S T, Frsh w w' S ∧ Frsh w w' T ∧ Apart S T ∧ Own t (hp w') r.1 cs S ∧ Own u (hp w') r.2 ds T
def P3 (t u v : Ty) (w : World) (r : t.den × u.den × v.den) (e : Ending) (w' : World) : Prop := ∃ cs ds es, e = .returned (.tuple #[t.val cs, u.val ds, v.val es]) ∧ Below w.heap.size w w' ∧
  ∃ S T U, Frsh w w' S ∧ Frsh w w' T ∧ Frsh w w' U ∧ Apart S T ∧ Apart S U ∧ Apart T U ∧ Own t (hp w') r.1 cs S ∧ Own u (hp w') r.2.1 ds T ∧ Own v (hp w') r.2.2 es U
/-- A result that leads to what was there. -/
def PB (t : Ty) (w : World) (r : t.den) (e : Ending) (w' : World) : Prop := ∃ cs, e = .returned (t.val cs) ∧ Below w.heap.size w w' ∧ Rd t (hp w') r cs
section
variable {P : Program} {s : Sl} {w w' w0 : World} {H : Hp} {F : List Ob} {d : Option Tmp} {ty : TypeId} {pos : String} {af : Array Edge} {gd : Option (Nat × Bool)} {x y z : Operand} {T T' : TypeId} {t u v : Ty}
theorem St.below_size (h : St w0 H w F) : w0.heap.size ≤ w.heap.size := h.size
theorem P1.st {r : t.den} {e : Ending} (HS : St w0 H w F) (h : P1 t w r e w') : ∃ cs, e = .returned (t.val cs) ∧ Below w.heap.size w w' ∧ St w0 H w' (.ow t r cs :: F) := by
  obtain ⟨cs, he, hb, S, hf, ho⟩ := h
  exact ⟨cs, he, hb, HS.new hb hf ho⟩
theorem P2.st {r : t.den × u.den} {e : Ending} (HS : St w0 H w F) (h : P2 t u w r e w') : ∃ cs ds, e = .returned (.tuple #[t.val cs, u.val ds]) ∧ Below w.heap.size w w' ∧ St w0 H w' (.ow t r.1 cs :: .ow u r.2 ds :: F) := by
  obtain ⟨cs, ds, he, hb, S, T, h1, h2, ap, o1, o2⟩ := h
  have h' := (HS.new (o := .ow (.prod t u) r (cs ++ ds)) hb (S := fun b => S b ∨ T b) (fun b hb => hb.elim (h1 b) (h2 b)) ⟨cs, ds, S, T, rfl, fun _ h => .inl h, fun _ h => .inr h, ap, o1, o2⟩)
  refine ⟨cs, ds, he, hb, h'.own1 fun U k => ?_⟩
  obtain ⟨S1, S2, i1, i2, ap', ⟨c1, c2, T1, T2, ec, j1, j2, ap'', k1, k2⟩, rr⟩ := k
  have hl : c1.length = cs.length := k1.len.trans o1.len.symm
  obtain ⟨rfl, rfl⟩ := List.append_inj ec hl.symm
  exact ⟨T1, fun b => T2 b ∨ S2 b, fun b hb => i1 b (j1 b hb), fun b hb => hb.elim (fun h => i1 b (j2 b h)) (i2 b), fun b h1 h2 => h2.elim (ap'' b h1) (ap' b (j1 b h1)), k1, T2, S2, fun _ h => .inl h, fun _ h => .inr h, fun b h1 h2 => ap' b (j2 b h1) h2, k2, rr⟩
/-- What is flat lies in its one cell. -/
def fv : (t : Ty) → t.den → Value
  | .int k, x => .int k x
  | .bool, x => .bool x
  | .str, x => .string x
  | _, _ => undef
theorem flat_cs {H : Hp} (hf : flat t = true) {x : t.den} {cs : List Value} {S : Bs} (h : Own t H x cs S) : cs = [fv t x] := by
  cases t <;> first | exact h | cases hf
theorem St.flat (h : St w0 H w F) (i : Nat) {x : t.den} {cs : List Value} (hi : F[i]? = some (.ow t x cs)) (hf : Go.Proofs.Ytpfibofoeblapaa.flat t = true) : cs = [fv t x] := by
  obtain ⟨_, _, _, _, _, ho, _⟩ := h.own.front i hi
  exact flat_cs hf ho
/-- A call of a function of one flat result. -/
theorem o_cf {f : FuncId} {args : Array Operand} {at_ : Array TypeId} {vs : List Value} {r : t.den} (HS : St w0 H w F) (hf : flat t = true) (hc : Calls P f vs.toArray w (P1 t w r)) (hF : cfB P f = true) (ha : args.toList.map (ev s) = vs) :
    OpR P ⟨d, .call ⟨.value (.func f), args, at_⟩, ty, pos, af, gd⟩ s w fun v w' => v = fv t r ∧ Below w.heap.size w w' ∧ St w0 H w' F := by
  refine o_call hF ha (hc.mono ?_)
  rintro e w' ⟨cs, rfl, hb, S, _, ho⟩
  obtain rfl := flat_cs hf ho
  refine ⟨_, rfl, ?_, hb, HS.ext hb⟩
  cases t <;> first | rfl | cases hf
/-- .. of one result. -/
theorem o_c1 {f : FuncId} {args : Array Operand} {at_ : Array TypeId} {vs : List Value} {r : t.den} (HS : St w0 H w F) (hc : Calls P f vs.toArray w (P1 t w r)) (hF : cfB P f = true) (ha : args.toList.map (ev s) = vs) :
    OpR P ⟨d, .call ⟨.value (.func f), args, at_⟩, ty, pos, af, gd⟩ s w fun v w' => ∃ cs, v = t.val cs ∧ Below w.heap.size w w' ∧ St w0 H w' (.ow t r cs :: F) := by
  refine o_call hF ha (hc.mono ?_)
  intro e w' h
  obtain ⟨cs, rfl, hb, hs⟩ := h.st HS
  exact ⟨_, rfl, cs, rfl, hb, hs⟩
theorem o_c2 {f : FuncId} {args : Array Operand} {at_ : Array TypeId} {vs : List Value} {r : t.den × u.den} (HS : St w0 H w F) (hc : Calls P f vs.toArray w (P2 t u w r)) (hF : cfB P f = true) (ha : args.toList.map (ev s) = vs) :
    OpR P ⟨d, .call ⟨.value (.func f), args, at_⟩, ty, pos, af, gd⟩ s w fun v w' => ∃ cs ds, v = .tuple #[t.val cs, u.val ds] ∧ Below w.heap.size w w' ∧ St w0 H w' (.ow t r.1 cs :: .ow u r.2 ds :: F) := by
  refine o_call hF ha (hc.mono ?_)
  intro e w' h
  obtain ⟨cs, ds, rfl, hb, hs⟩ := h.st HS
  exact ⟨_, rfl, cs, ds, rfl, hb, hs⟩
theorem o_cb {f : FuncId} {args : Array Operand} {at_ : Array TypeId} {vs : List Value} {r : t.den} (HS : St w0 H w F) (hc : Calls P f vs.toArray w (PB t w r)) (hF : cfB P f = true) (ha : args.toList.map (ev s) = vs) :
    OpR P ⟨d, .call ⟨.value (.func f), args, at_⟩, ty, pos, af, gd⟩ s w fun v w' => ∃ cs, v = t.val cs ∧ Below w.heap.size w w' ∧ St w0 H w' F ∧ Rd t (hp w') r cs := by
  refine o_call hF ha (hc.mono ?_)
  rintro e w' ⟨cs, rfl, hb, hr⟩
  exact ⟨_, rfl, cs, rfl, hb, HS.ext hb, hr⟩
/-- The same through a function value. -/
theorem o_vf {f : FuncId} {args : Array Operand} {at_ : Array TypeId} {vs fs cs : List Value} {r : t.den} (HS : St w0 H w F) (hf : flat t = true) (hc : Calls P f (fs ++ vs ++ cs).toArray w (P1 t w r)) (hF : cfB P f = true) (hx : ev s x = .func (.func f) fs.toArray cs.toArray) (ha : args.toList.map (ev s) = vs) :
    OpR P ⟨d, .call ⟨.value x, args, at_⟩, ty, pos, af, gd⟩ s w fun v w' => v = fv t r ∧ Below w.heap.size w w' ∧ St w0 H w' F := by
  refine o_callv hF hx ha (hc.mono ?_)
  rintro e w' ⟨cs, rfl, hb, S, _, ho⟩
  obtain rfl := flat_cs hf ho
  refine ⟨_, rfl, ?_, hb, HS.ext hb⟩
  cases t <;> first | rfl | cases hf
/-- What a body has to show in the end. -/
theorem P1.of_flat {r : t.den} (HS : St w H w' F) (hs : Sub (hp w) H) (hf : flat t = true) : P1 t w r (.returned (fv t r)) w' := by
  refine ⟨[fv t r], ?_, HS.below hs, fun _ => False, fun _ h => False.elim h, ?_⟩
  · cases t <;> first | rfl | cases hf
  · cases t <;> first | rfl | cases hf
theorem P1.of {r : t.den} {cs : List Value} (HS : St w H w' (.ow t r cs :: F)) (hs : Sub (hp w) H) : P1 t w r (.returned (t.val cs)) w' := by
  obtain ⟨S1, S2, i1, _, _, ho, _⟩ := HS.own
  refine ⟨cs, rfl, HS.below hs, S1, fun b hb => ⟨?_, (i1 b hb).2⟩, ho⟩
  rcases Nat.lt_or_ge b w.heap.size with hl | hl
  · have e : hp w b = some w.heap[b] := Array.getElem?_eq_getElem hl
    have := hs _ _ e
    rw [(i1 b hb).1] at this; cases this
  · exact hl
theorem P2.of {r : t.den × u.den} {cs ds : List Value} (HS : St w H w' (.ow t r.1 cs :: .ow u r.2 ds :: F)) (hs : Sub (hp w) H) : P2 t u w r (.returned (.tuple #[t.val cs, u.val ds])) w' := by
  obtain ⟨S1, S2, i1, i2, ap, ho, T1, T2, j1, _, _, ho2, _⟩ := HS.own
  have key : ∀ b, H b = none → w.heap.size ≤ b := by
    intro b hb
    rcases Nat.lt_or_ge b w.heap.size with hl | hl
    · have e : hp w b = some w.heap[b] := Array.getElem?_eq_getElem hl
      have := hs _ _ e
      rw [hb] at this; cases this
    · exact hl
  exact ⟨cs, ds, rfl, HS.below hs, S1, T1, fun b hb => ⟨key b (i1 b hb).1, (i1 b hb).2⟩, fun b hb => ⟨key b (i2 b (j1 b hb)).1, (i2 b (j1 b hb)).2⟩, fun b h1 h2 => ap b h1 (j1 b h2), ho, ho2⟩
/-- A boxed variable that is never written again. -/
theorem o_boxz {V : Value} {cs : List Value} (HS : St w0 H w F) (hx : ev s x = V) (hc : vcs V = cs) :
    OpR P ⟨d, .box T x, ty, pos, af, gd⟩ s w fun v w' => ∃ g H', v = .pointer (some ⟨g, 0, none⟩) ∧ Sub H H' ∧ AtH H' (.pointer (some ⟨g, 0, none⟩)) cs ∧ Below w.heap.size w w' ∧ St w0 H' w' F := by
  refine (o_box HS hx hc).mono ?_
  rintro v w' ⟨g, rfl, hb, hs⟩
  obtain ⟨S1, S2, i1, i2, ap, ⟨hg, hbx⟩, r⟩ := hs.own
  classical
  let H' : Hp := fun b => if b = g then hp w' g else H b
  have hsub : Sub H H' := fun b o e => by
    show (if b = g then hp w' g else H b) = some o
    split
    · rename_i hb; subst hb; rw [(i1 b hg).1] at e; cases e
    · exact e
  refine ⟨g, H', rfl, hsub, ⟨_, rfl, ?_⟩, hb, hs.os, hs.tape, hs.out, hs.size, fun b o e => ?_, r.loc (fun _ _ => rfl) fun b hb => ⟨?_, (i2 b hb).2⟩⟩
  · have : H' g = some (.cells (cs ++ []).toArray T (0, 0)) := by simpa [H'] using hbx
    exact csH_block this
  · by_cases hbg : b = g
    · subst hbg; rw [show H' b = hp w' b from if_pos rfl] at e; exact e
    · rw [show H' b = H b from if_neg hbg] at e; exact hs.sub _ _ e
  · show (if b = g then hp w' g else H b) = none
    rw [if_neg (show ¬ b = g from fun e => ap b (by rw [e]; exact hg) hb)]; exact (i2 b hb).1
/-- A result that lies in a box. -/
theorem rv_box {i g : Nat} {T' : TypeId} {cs : List Value} {n tt : Nat} (HS : St w0 H w F) (hi : F[i]? = some (.bx g T' cs)) (hs : s tt = .pointer (some ⟨g, 0, none⟩)) (hT : agB P T n = true) (hn : cs.length = n) : RV P s w (.cell tt T) (.agg cs.toArray) := by
  obtain ⟨ii, u, hii, hsz, hu⟩ := ag_und hT
  have hag : (isAgg T).run P w = .ok true w := by simp [isAgg, underlying, go_sem, hu]
  have hl := run_loadCells (P := P) (cs_block1 (HS.box i hi)) (hn.trans hsz.symm)
  refine ⟨_, hs, ?_⟩
  unfold loadVar
  simp only [Sem.run_bind, hag, Result.andThen_ok, if_true, run_sizeOf hii, hl, Sem.run_pure]
end
end Go.Proofs.Ytpfibofoeblapaa
