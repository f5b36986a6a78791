/- Stores into elements. -/
import Derived.Test.YtpfibofoeblapaaGen
set_option linter.unusedVariables false
set_option linter.unusedSimpArgs false
namespace Go.Proofs.Ytpfibofoeblapaa
open Go Go.RowKit

theorem OwnC.loc {H H' : Hp} {t : Ty} {xs : List t.den} {ds : List Value} {S S' : Bs} (h : ∀ b, S b → H' b = H b) (hS : In S S') (k : OwnC (Own t H) xs ds S) : OwnC (Own t H') xs ds S' :=
  k.imp (fun _ _ T hT k => Own.loc (fun b hb => h b (hT b hb)) (fun _ hb => hb) k) hS
/-- One element by itself, and the others. -/
theorem OwnC.focus {H : Hp} {t : Ty} : ∀ {xs : List t.den} {ds : List Value} {S : Bs} (i : Nat), OwnC (Own t H) xs ds S → i < xs.length →
    ∃ pre ci post Si, ds = pre ++ (ci ++ post) ∧ pre.length = i * t.sz ∧ In Si S ∧ Own t H (xs.getD i t.dflt) ci Si ∧
      ∀ (H' : Hp) (x' : t.den) (ci' : List Value), (∀ b, S b → ¬ Si b → H' b = H b) → Own t H' x' ci' Si → OwnC (Own t H') (xs.set i x') (pre ++ (ci' ++ post)) S
  | [], _, _, i, _, h => absurd h (by simp)
  | x :: xs, ds, S, 0, ⟨c1, c2, S1, S2, e, i1, i2, ap, k1, k2⟩, _ =>
    ⟨[], c1, c2, S1, by simpa using e, by simp, i1, by simpa using k1, fun H' x' ci' hH ho => ⟨ci', c2, S1, S2, rfl, i1, i2, ap, ho, k2.loc (fun b hb => hH b (i2 b hb) fun hs => ap b hs hb) fun _ hb => hb⟩⟩
  | x :: xs, ds, S, i + 1, ⟨c1, c2, S1, S2, e, i1, i2, ap, k1, k2⟩, h => by
    obtain ⟨pre, ci, post, Si, e2, hl, hi, ho, hu⟩ := OwnC.focus i k2 (by simpa using h)
    refine ⟨c1 ++ pre, ci, post, Si, by rw [e, e2, List.append_assoc], ?_, fun b hb => i2 b (hi b hb), by simpa using ho, fun H' x' ci' hH ho' => ?_⟩
    · rw [List.length_append, k1.len, hl, Nat.add_mul]; omega
    · refine ⟨c1, pre ++ (ci' ++ post), S1, S2, by simp, i1, i2, ap, Own.loc (fun b hb => hH b (i1 b hb) fun hs => ap b hb (hi b hs)) (fun _ hb => hb) k1, ?_⟩
      exact hu H' x' ci' (fun b hb hn => hH b (i2 b hb) hn) ho'
theorem Own.focus {H : Hp} {t : Ty} {e : TypeId} {xs : List t.den} {v : Value} {S : Bs} (i : Nat) (k : Own (.sl e t) H xs [v] S) (hi : i < xs.length) :
    ∃ g pre ci post Si, S g ∧ ¬ Si g ∧ In Si S ∧ v.ownBlock = some g ∧ (∀ j, eaddr v j = .pointer (some ⟨g, j, none⟩)) ∧ H g = some (.cells (pre ++ (ci ++ post)).toArray e (0, 0)) ∧ pre.length = i * t.sz ∧ Own t H (xs.getD i t.dflt) ci Si ∧
      ∀ (H' : Hp) (x' : t.den) (ci' : List Value), ci'.length = ci.length → (∀ b, S b → b ≠ g → ¬ Si b → H' b = H b) → H' g = some (.cells (pre ++ (ci' ++ post)).toArray e (0, 0)) → Own t H' x' ci' Si → Own (.sl e t) H' (xs.set i x') [v] S := by
  rcases k with ⟨_, rfl⟩ | ⟨g, c, ds, rs, S', e1, hg, hn, hT, hb, k1, k2, k3, k4⟩
  · simp at hi
  obtain ⟨pre, ci, post, Si, e2, hl, hin, ho, hu⟩ := k4.focus i hi
  subst e2
  obtain rfl : v = .slice (some ⟨g, 0, none⟩) xs.length c := by simpa using e1
  refine ⟨g, pre, ci, post ++ rs, Si, hg, fun h => hn (hin g h), fun b hb => hT b (hin b hb), rfl, fun j => ?_, by simpa using hb, hl, ho, fun H' x' ci' hlen hH hg' ho' => ?_⟩
  · show Value.pointer (some ((⟨g, 0, none⟩ : Addr).add j)) = _
    unfold Addr.add; split <;> simp_all
  · refine .inr ⟨g, c, pre ++ (ci' ++ post), rs, S', by simp, hg, hn, hT, by simpa using hg', by simpa [hlen] using k1, by simpa using k2, ⟨k3.1, by simpa using k3.2⟩, ?_⟩
    exact hu H' x' ci' (fun b hb hs => hH b (hT b hb) (fun e => hn (e ▸ hb)) hs) ho'
/-- Its guard was not carried out itself. -/
theorem want_offn {ops : Array Oper} {o : Oper} {s : Sl} {j : Nat} {b : Bool} (hg : o.guard = some (j, b)) (hy : yl ops s j = none) : want ops o s = false := by
  simp [want, Region.wanted, hg, hy]
theorem ro_offn {P : Program} {s : Sl} {w : World} {d : Option Tmp} {ty : TypeId} {pos : String} {af : Array Edge} {ops : Array Oper} {n : Nat} {l : List Oper} {K : Sl → World → Prop} {op : Op} {j : Nat} {b : Bool} (hy : yl ops s j = none) (hd : dlt n d = true) (h : RO P ops n l (dput s d undef) w K) :
    RO P ops n (⟨d, op, ty, pos, af, some (j, b)⟩ :: l) s w K := by
  intro a Q ha hQ
  simp only [wpL, Region.wanted, yl_eq ha, hy]
  have : ((none : Option Bool) == some b) = false := rfl
  simp only [this]
  exact h _ Q (ha.put hd undef) hQ
section
variable {P : Program} {s : Sl} {w w' w0 : World} {H H' : Hp} {F G : List Ob} {d : Option Tmp} {ty : TypeId} {pos : String} {af : Array Edge} {gd : Option (Nat × Bool)} {x y z : Operand} {T T' : TypeId} {t u : Ty} {v : Value} {e : TypeId}
/-- One cell of a block turns. -/
theorem run_store1 {g j : Nat} {l : List Value} {V : Value} (hb : hp w g = some (.cells l.toArray e (0, 0))) (hj : j < l.length) (hT : stB P T 1 = true) (hp' : plainV V = true) (hx : ev s x = .pointer (some ⟨g, j, none⟩)) (hy : ev s y = V) :
    (execOp (ev s) ⟨d, .store T x y, ty, pos, af, gd⟩).run P w = .ok .skip (setB w g (.cells (l.set j V).toArray e (0, 0))) := by
  simp only [stB, Bool.and_eq_true] at hT
  obtain ⟨i, hi⟩ := Option.isSome_iff_exists.1 hT.1
  have hn := Nat.eq_of_beq_eq_true hT.2
  simp [Program.cellsOf, hi] at hn
  have hc : V.cells = [V].toArray := by rw [← vcs_pl hp']; simp [vcs]
  have hst := run_storeCells (P := P) (g := g) (T := e) [V] w l j 0 hb (by simpa using hp') (by simp; omega)
  rw [Nat.add_zero] at hst
  have hsp : spl l j [V] = l.set j V := by
    unfold spl
    rw [List.set_eq_take_append_cons_drop, if_pos hj]; simp
  rw [hsp] at hst
  have hsv : (storeVar T ⟨g, j, none⟩ V).run P w = .ok () (setB w g (.cells (l.set j V).toArray e (0, 0))) := by
    unfold storeVar
    rw [hc]
    simp only [Sem.run_bind, run_sizeOf hi, Result.andThen, hn, List.size_toArray, List.length_cons, List.length_nil, ne_eq, not_true_eq_false, if_false, Sem.run_pure]
    exact hst
  simp only [execOp, Instr.storeAt, hx, hy, Instr.sureAddr, Sem.run_bind, Sem.run_pure, Result.andThen, hsv]
/-- A value of one cell in an element of what is owned: at its own place, off cells into the element. -/
theorem o_set1 {xs : List t.den} {i : Int} {off : Nat} {V pv : Value} (up : t.den → t.den) (HS : St w0 H w (.ow (.sl e t) xs [v] :: F)) (h0 : 0 ≤ i) (h1 : i < (xs.length : Int)) (hT : stB P T 1 = true) (hV : plainV V = true)
    (hup : ∀ (H : Hp) x cs S, Own t H x cs S → off < cs.length ∧ Own t H (up x) (cs.set off V) S) (hx : ev s x = pv) (hpv : ∀ g, (∀ j, eaddr v j = .pointer (some ⟨g, j, none⟩)) → pv = .pointer (some ⟨g, i.toNat * t.sz + off, none⟩)) (hy : ev s y = V) :
    OpR P ⟨d, .store T x y, ty, pos, af, gd⟩ s w fun u w' => u = undef ∧ (∀ M : Nat → Prop, (∀ g, v.ownBlock = some g → M g) → Kp M w w') ∧ St w0 H w' (.ow (.sl e t) (xs.set i.toNat (up (xs.getD i.toNat t.dflt))) [v] :: F) := by
  obtain ⟨S1, S2, i1, i2, ap, ho, r⟩ := HS.own
  have hi : i.toNat < xs.length := by omega
  obtain ⟨g, pre, ci, post, Si, hg, hng, hin, hob, hea, hH, hl, hoi, hu⟩ := Own.focus i.toNat ho hi
  obtain ⟨hoff, _⟩ := hup _ _ _ _ hoi
  have hpv := hpv g hea
  rw [hpv] at hx
  have hlt : i.toNat * t.sz + off < (pre ++ (ci ++ post)).length := by simp [hl]; omega
  have hset : (pre ++ (ci ++ post)).set (i.toNat * t.sz + off) V = pre ++ (ci.set off V ++ post) := by
    rw [List.set_append_right _ _ (by omega), List.set_append_left _ _ (by omega)]
    congr 3; omega
  have hrun := run_store1 (P := P) (d := d) (ty := ty) (pos := pos) (af := af) (gd := gd) hH hlt hT hV hx hy
  rw [hset] at hrun
  have hgl : g < w.heap.size := (i1 g hg).2
  unfold OpR
  rw [hrun]
  refine ⟨rfl, fun M hM => ⟨by simp [setB], fun k hk hn => setB_ne _ fun e => hn (e ▸ hM g hob)⟩, ?_⟩
  refine HS.turn rfl rfl rfl (by simp [setB]) fun S hoS hS => ?_
  obtain ⟨g2, pre2, ci2, post2, Si2, hg2, hng2, hin2, hob2, hea2, hH2, hl2, hoi2, hu2⟩ := Own.focus i.toNat hoS hi
  obtain rfl : g2 = g := by rw [hob] at hob2; exact (Option.some.inj hob2).symm
  rw [hH] at hH2
  have he : pre ++ (ci ++ post) = pre2 ++ (ci2 ++ post2) := by
    have := Option.some.inj hH2
    simpa using congrArg (fun o => match o with | Obj.cells c _ _ => c.toList | _ => []) this
  obtain ⟨rfl, he3⟩ := List.append_inj he (hl.trans hl2.symm)
  obtain ⟨rfl, rfl⟩ := List.append_inj he3 (hoi.len.trans hoi2.len.symm)
  refine ⟨fun b hb hs => setB_ne _ fun e => hs (e ▸ hg2), ?_⟩
  have hH' : ∀ b, b ≠ g2 → hp (setB w g2 (.cells (pre ++ (ci.set off V ++ post)).toArray e (0, 0))) b = hp w b := fun b hb => setB_ne _ hb
  have hnew := hu2 (hp (setB w g2 (.cells (pre ++ (ci.set off V ++ post)).toArray e (0, 0)))) (up (xs.getD i.toNat t.dflt)) (ci.set off V) (by simp) (fun b hb hne _ => hH' b hne) (setB_at _ hgl)
    (Own.loc (fun b hb => hH' b fun e => hng2 (e ▸ hb)) (fun _ h => h) (hup _ _ _ _ hoi2).2)
  exact Own.loc (fun _ _ => rfl) (fun _ h => .inl h) hnew
/-- .. of a row of values of one cell each. -/
theorem o_set {xs : List t.den} {i : Int} {x' : t.den} (HS : St w0 H w (.ow (.sl e t) xs [v] :: F)) (hf : flat t = true) (h0 : 0 ≤ i) (h1 : i < (xs.length : Int)) (hT : stB P T 1 = true) (hx : ev s x = eaddr v (i.toNat * 1)) (hy : ev s y = fv t x') :
    OpR P ⟨d, .store T x y, ty, pos, af, gd⟩ s w fun u w' => u = undef ∧ (∀ M : Nat → Prop, (∀ g, v.ownBlock = some g → M g) → Kp M w w') ∧ St w0 H w' (.ow (.sl e t) (xs.set i.toNat x') [v] :: F) := by
  have h1s : t.sz = 1 := by cases t <;> first | rfl | cases hf
  refine o_set1 (off := 0) (V := fv t x') (fun _ => x') HS h0 h1 hT (by cases t <;> first | rfl | cases hf) (fun H' x'' cs S ho => ?_) hx (fun g hg => ?_) hy
  · have := flat_cs hf ho; subst this
    refine ⟨by simp, ?_⟩
    cases t <;> first | rfl | cases hf
  · rw [hg, h1s]; rfl
end
end Go.Proofs.Ytpfibofoeblapaa
