/- An element of what is owned, taken out and put back. -/
import Derived.Test.YtpfibofoeblapaaSet
set_option linter.unusedVariables false
set_option linter.unusedSimpArgs false
namespace Go.Proofs.Ytpfibofoeblapaa
open Go Go.RowKit

theorem OwnC.opn {H : Hp} {t : Ty} : ∀ {xs : List t.den} {ds : List Value} {S : Bs} (i : Nat), OwnC (Own t H) xs ds S → i < xs.length →
    ∃ pre ci post Si So, ds = pre ++ (ci ++ post) ∧ pre.length = i * t.sz ∧ In Si S ∧ In So S ∧ Apart Si So ∧ Own t H (xs.getD i t.dflt) ci Si ∧
      ∀ (H' : Hp) (x' : t.den) (ci' : List Value) (Si' U : Bs), (∀ b, So b → H' b = H b) → Own t H' x' ci' Si' → Apart Si' So → In Si' U → In So U → OwnC (Own t H') (xs.set i x') (pre ++ (ci' ++ post)) U
  | [], _, _, i, _, h => absurd h (by simp)
  | x :: xs, ds, S, 0, ⟨c1, c2, S1, S2, e, i1, i2, ap, k1, k2⟩, _ =>
    ⟨[], c1, c2, S1, S2, by simpa using e, by simp, i1, i2, ap, by simpa using k1, fun H' x' ci' Si' U hH ho ap' hi ho' => ⟨ci', c2, Si', S2, rfl, hi, ho', ap', ho, k2.loc hH fun _ hb => hb⟩⟩
  | x :: xs, ds, S, i + 1, ⟨c1, c2, S1, S2, e, i1, i2, ap, k1, k2⟩, h => by
    obtain ⟨pre, ci, post, Si, So, e2, hl, hi, hO, apo, ho, hu⟩ := OwnC.opn i k2 (by simpa using h)
    refine ⟨c1 ++ pre, ci, post, Si, fun b => S1 b ∨ So b, by rw [e, e2, List.append_assoc], ?_, fun b hb => i2 b (hi b hb), ?_, ?_, by simpa using ho, fun H' x' ci' Si' U hH ho' ap' hiU hoU => ?_⟩
    · rw [List.length_append, k1.len, hl, Nat.add_mul]; omega
    · rintro b (hb | hb)
      · exact i1 b hb
      · exact i2 b (hO b hb)
    · rintro b hb (h | h)
      · exact ap b h (hi b hb)
      · exact apo b hb h
    · refine ⟨c1, pre ++ (ci' ++ post), S1, fun b => Si' b ∨ So b, by simp, fun b hb => hoU b (.inl hb), ?_, ?_, Own.loc (fun b hb => hH b (.inl hb)) (fun _ hb => hb) k1, ?_⟩
      · rintro b (hb | hb)
        · exact hiU b hb
        · exact hoU b (.inr hb)
      · rintro b hb (h | h)
        · exact ap' b h (.inl hb)
        · exact ap b hb (hO b h)
      · exact hu H' x' ci' Si' _ (fun b hb => hH b (.inr hb)) ho' (fun b h1 h2 => ap' b h1 (.inr h2)) (fun b hb => .inl hb) fun b hb => .inr hb
/-- A row of which one element is taken out; its cells stay as they are. -/
def Hole (e : TypeId) (t : Ty) (xs : List t.den) (v : Value) (i : Nat) (ci : List Value) (H : Hp) (S : Bs) : Prop :=
  AtH H (eaddr v (i * t.sz)) ci ∧ ∀ (x' : t.den) (Si U : Bs), Own t H x' ci Si → Apart Si S → In Si U → In S U → Own (.sl e t) H (xs.set i x') [v] U
section
variable {P : Program} {w w' w0 : World} {H : Hp} {F : List Ob} {t : Ty} {v : Value} {e : TypeId}
theorem St.opn {xs : List t.den} {i : Nat} (HS : St w0 H w (.ow (.sl e t) xs [v] :: F)) (hi : i < xs.length) : ∃ ci, St w0 H w (.ow t (xs.getD i t.dflt) ci :: .pr (Hole e t xs v i ci) :: F) := by
  obtain ⟨S1, S2, i1, i2, ap, ho, r⟩ := HS.own
  rcases ho with ⟨_, rfl⟩ | ⟨g, c, ds, rs, S', e1, hg, hn, hT, hb, k1, k2, k3, k4⟩
  · simp at hi
  obtain ⟨pre, ci, post, Si, So, e2, hl, hin, hon, apo, hoi, hu⟩ := k4.opn i hi
  subst e2
  obtain rfl : v = .slice (some ⟨g, 0, none⟩) xs.length c := by simpa using e1
  refine ⟨ci, HS.with_own ⟨Si, fun b => b = g ∨ So b ∨ S2 b, fun b hb' => i1 b (hT b (hin b hb')), ?_, ?_, hoi, fun b => b = g ∨ So b, S2, fun b hb => hb.elim .inl fun h => .inr (.inl h), fun b hb => .inr (.inr hb), ?_, ?_, r⟩⟩
  · rintro b (rfl | hb' | hb')
    · exact i1 _ hg
    · exact i1 b (hT b (hon b hb'))
    · exact i2 b hb'
  · rintro b hb' (rfl | h | h)
    · exact hn (hin _ hb')
    · exact apo b hb' h
    · exact ap b (hT b (hin b hb')) h
  · rintro b (rfl | hb') h2
    · exact ap _ hg h2
    · exact ap b (hT b (hon b hb')) h2
  · intro H' S'' hH hS
    have hgb : H' g = some (.cells ((pre ++ (ci ++ post)) ++ rs).toArray e (0, 0)) := (hH g (.inl rfl)).trans hb
    refine ⟨?_, fun x' Sx U hx hap hxU hSU => .inr ⟨g, c, pre ++ (ci ++ post), rs, fun b => Sx b ∨ So b, by simp, hSU g (hS g (.inl rfl)), ?_, ?_, hgb, by simpa using k1, by simpa using k2, ⟨k3.1, by simpa using k3.2⟩, ?_⟩⟩
    · have hc := csH_block (H := H') (g := g) (ds := pre ++ (ci ++ post)) (rs := rs) (e := e) (f := (0, 0)) hgb
      refine ⟨(⟨g, 0, none⟩ : Addr).add (i * t.sz), rfl, ?_⟩
      have := hc.drop.take (cs := ci) (ds := post)
      rw [hl] at this; exact this
    · rintro (h | h)
      · exact hap g h (hS g (.inl rfl))
      · exact hn (hon g h)
    · rintro b (h | h)
      · exact hxU b h
      · exact hSU b (hS b (.inr h))
    · exact hu H' x' ci Sx _ (fun b hb => hH b (.inr hb)) hx (fun b h1 h2 => hap b h1 (hS b (.inr h2))) (fun b h => .inl h) fun b h => .inr h
theorem St.cls {xs : List t.den} {i : Nat} {x' : t.den} {ci : List Value} (HS : St w0 H w (.ow t x' ci :: .pr (Hole e t xs v i ci) :: F)) : St w0 H w (.ow (.sl e t) (xs.set i x') [v] :: F) := by
  refine HS.own1 fun S k => ?_
  obtain ⟨S1, S2, i1, i2, ap, ho, T1, T2, j1, j2, ap', hh, r⟩ := k
  have h := hh (hp w) T1 (fun _ _ => rfl) fun _ h => h
  refine ⟨fun b => S1 b ∨ T1 b, T2, ?_, fun b hb => i2 b (j2 b hb), ?_, h.2 x' S1 _ ho (fun b h1 h2 => ap b h1 (j1 b h2)) (fun b h => .inl h) fun b h => .inr h, r⟩
  · rintro b (hb | hb)
    · exact i1 b hb
    · exact i2 b (j1 b hb)
  · rintro b (hb | hb) h2
    · exact ap b hb (j2 b h2)
    · exact ap' b hb h2
theorem St.holeAt {xs : List t.den} {i : Nat} {ci : List Value} (k : Nat) (HS : St w0 H w F) (hk : F[k]? = some (.pr (Hole e t xs v i ci))) : AtH (hp w) (eaddr v (i * t.sz)) ci := by
  obtain ⟨_, _, _, _, _, ho, _⟩ := HS.own.front k hk
  exact (ho (hp w) _ (fun _ _ => rfl) fun _ h => h).1
/-! ### a state that is handed through -/
theorem St.self (HS : St w0 H w F) : St w H w F := ⟨rfl, rfl, rfl, Nat.le_refl _, HS.sub, HS.own⟩
theorem St.from {G : List Ob} (HS : St w0 H w F) (h : St w H w' G) : St w0 H w' G := ⟨h.os.trans HS.os, h.tape.trans HS.tape, h.out.trans HS.out, Nat.le_trans HS.size h.size, h.sub, h.own⟩
theorem St.kpH {G : List Ob} (HS : St w0 H w F) (h : St w H w' G) : Kp (fun b => H b = none) w w' := ⟨h.size, fun b hb hn => by
  cases e : H b with
  | none => exact absurd e hn
  | some o => exact (h.sub b o e).trans (HS.sub b o e).symm⟩
/-- What a call with a state shows. -/
def PS (v : Value) (X : World → Prop) (e : Ending) (w' : World) : Prop := e = .returned v ∧ X w'
theorem o_cs {s : Sl} {d : Option Tmp} {ty : TypeId} {pos : String} {af : Array Edge} {gd : Option (Nat × Bool)} {f : FuncId} {args : Array Operand} {at_ : Array TypeId} {vs : List Value} {v0 : Value} {X : World → Prop} (hc : Calls P f vs.toArray w (PS v0 X)) (hF : cfB P f = true) (ha : args.toList.map (ev s) = vs) :
    OpR P ⟨d, .call ⟨.value (.func f), args, at_⟩, ty, pos, af, gd⟩ s w fun v w' => v = v0 ∧ X w' := by
  refine o_call hF ha (hc.mono ?_)
  rintro e w' ⟨rfl, hX⟩
  exact ⟨_, rfl, rfl, hX⟩
/-- A call with a state that hands back something new. -/
theorem o_cse {s : Sl} {d : Option Tmp} {ty : TypeId} {pos : String} {af : Array Edge} {gd : Option (Nat × Bool)} {f : FuncId} {args : Array Operand} {at_ : Array TypeId} {vs : List Value} {V : List Value → Value} {X : List Value → World → Prop} (hc : Calls P f vs.toArray w (fun e w' => ∃ cs, e = .returned (V cs) ∧ X cs w')) (hF : cfB P f = true) (ha : args.toList.map (ev s) = vs) :
    OpR P ⟨d, .call ⟨.value (.func f), args, at_⟩, ty, pos, af, gd⟩ s w fun v w' => ∃ cs, v = V cs ∧ X cs w' := by
  refine o_call hF ha (hc.mono ?_)
  rintro e w' ⟨cs, rfl, hX⟩
  exact ⟨_, rfl, cs, rfl, hX⟩
/-- An element that is owned is put in an element's place. -/
theorem o_seta {s : Sl} {d : Option Tmp} {ty : TypeId} {pos : String} {af : Array Edge} {gd : Option (Nat × Bool)} {x y : Operand} {T : TypeId} {xs : List t.den} {i : Int} {x' : t.den} {cs : List Value} {V : Value} (HS : St w0 H w (.ow (.sl e t) xs [v] :: .ow t x' cs :: F)) (h0 : 0 ≤ i) (h1 : i < (xs.length : Int)) (hT : stB P T t.sz = true)
    (hx : ev s x = eaddr v (i.toNat * t.sz)) (hy : ev s y = V) (hV : vcs V = cs) :
    OpR P ⟨d, .store T x y, ty, pos, af, gd⟩ s w fun u w' => u = undef ∧ (∀ M : Nat → Prop, (∀ g, v.ownBlock = some g → M g) → Kp M w w') ∧ St w0 H w' (.ow (.sl e t) (xs.set i.toNat x') [v] :: F) := by
  have hi : i.toNat < xs.length := by omega
  obtain ⟨S1, S2, i1, i2, ap, ho, T1, T2, j1, j2, ap', hox, r⟩ := HS.own
  rcases ho with ⟨_, rfl⟩ | ⟨g, c, ds, rs, S', e1, hg, hn, hS', hb, k1, k2, k3, k4⟩
  · simp at hi
  obtain ⟨pre, ci, post, Si, So, e2, hl, hin, hon, apo, hoi, hu⟩ := k4.opn i.toNat hi
  subst e2
  obtain rfl : v = .slice (some ⟨g, 0, none⟩) xs.length c := by simpa using e1
  have hcs : cs.length = t.sz := hox.len
  have hci : ci.length = t.sz := hoi.len
  have hpl := hox.plain
  have hadd : eaddr (.slice (some ⟨g, 0, none⟩) xs.length c) (i.toNat * t.sz) = .pointer (some ⟨g, i.toNat * t.sz, none⟩) := by
    show Value.pointer (some ((⟨g, 0, none⟩ : Addr).add _)) = _
    unfold Addr.add; split <;> simp_all
  rw [hadd] at hx
  simp only [stB, Bool.and_eq_true] at hT
  obtain ⟨ti, hti⟩ := Option.isSome_iff_exists.1 hT.1
  have hnn := Nat.eq_of_beq_eq_true hT.2
  simp [Program.cellsOf, hti] at hnn
  have hst := run_storeCells (P := P) (g := g) (T := e) cs w (pre ++ (ci ++ post) ++ rs) (i.toNat * t.sz) 0 hb hpl (by simp [hl, hcs, hci])
  have hsp : spl (pre ++ (ci ++ post) ++ rs) (i.toNat * t.sz + 0) cs = pre ++ (cs ++ post) ++ rs := by
    have e3 : i.toNat * t.sz + 0 + cs.length = (pre ++ ci).length := by simp [hl, hcs, hci]
    unfold spl
    rw [e3, show pre ++ (ci ++ post) ++ rs = (pre ++ ci) ++ (post ++ rs) from by simp, List.drop_left, Nat.add_zero, ← hl, show (pre ++ ci) ++ (post ++ rs) = pre ++ (ci ++ (post ++ rs)) from by simp, List.take_left]
    simp
  rw [hsp] at hst
  have hc : V.cells = cs.toArray := by rw [← hV]; simp [vcs]
  have hsv : (storeVar T ⟨g, i.toNat * t.sz, none⟩ V).run P w = .ok () (setB w g (.cells (pre ++ (cs ++ post) ++ rs).toArray e (0, 0))) := by
    unfold storeVar
    rw [hc]
    simp only [Sem.run_bind, run_sizeOf hti, Result.andThen, hnn, List.size_toArray, hcs, ne_eq, not_true_eq_false, if_false, Sem.run_pure]
    exact hst
  have hr : (execOp (ev s) ⟨d, .store T x y, ty, pos, af, gd⟩).run P w = .ok .skip (setB w g (.cells (pre ++ (cs ++ post) ++ rs).toArray e (0, 0))) := by
    simp only [execOp, Instr.storeAt, hx, hy, Instr.sureAddr, Sem.run_bind, Sem.run_pure, Result.andThen, hsv]
  have hgl : g < w.heap.size := (i1 g hg).2
  have hgn : H g = none := (i1 g hg).1
  have hot : ∀ b, b ≠ g → hp (setB w g (.cells (pre ++ (cs ++ post) ++ rs).toArray e (0, 0))) b = hp w b := fun b hb => setB_ne _ hb
  unfold OpR
  rw [hr]
  refine ⟨rfl, fun M hM => ⟨by simp [setB], fun k hk hn => setB_ne _ fun e => hn (e ▸ hM g rfl)⟩, HS.os, HS.tape, HS.out, by simpa [setB] using HS.size, fun b o eb => ?_, fun b => S1 b ∨ T1 b, T2, ?_, fun b hb => by simpa [setB] using i2 b (j2 b hb), ?_, ?_, r.loc (fun b hb => hot b fun e => ap g hg (e ▸ j2 b hb)) fun _ h => h⟩
  · have : b ≠ g := fun e => by rw [e, hgn] at eb; cases eb
    exact (hot b this).trans (HS.sub _ _ eb)
  · rintro b (hb | hb)
    · simpa [setB] using i1 b hb
    · simpa [setB] using i2 b (j1 b hb)
  · rintro b (hb | hb) h2
    · exact ap b hb (j2 b h2)
    · exact ap' b hb h2
  · refine .inr ⟨g, c, pre ++ (cs ++ post), rs, fun b => T1 b ∨ So b, by simp, .inl hg, ?_, ?_, setB_at _ hgl, ?_, by simpa using k2, ⟨k3.1, by simpa using k3.2⟩, ?_⟩
    · rintro (h | h)
      · exact ap g hg (j1 g h)
      · exact hn (hon g h)
    · rintro b (h | h)
      · exact .inr h
      · exact .inl (hS' b (hon b h))
    · rw [← k1]; simp [hcs, hci]
    · exact hu _ x' cs T1 _ (fun b hb => hot b fun e => hn (e ▸ hon b hb)) (hox.loc (fun b hb => hot b fun e => ap g hg (e ▸ j1 b hb)) fun _ h => h) (fun b h1 h2 => ap b (hS' b (hon b h2)) (j1 b h1)) (fun b h => .inl h) fun b h => .inr h
end
end Go.Proofs.Ytpfibofoeblapaa
