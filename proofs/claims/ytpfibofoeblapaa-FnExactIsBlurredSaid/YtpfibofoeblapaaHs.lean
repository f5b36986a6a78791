/- An element that is taken out, and something new put in its place; pieces of strings. -/
import Derived.Test.YtpfibofoeblapaaMap
set_option linter.unusedVariables false
set_option linter.unusedSimpArgs false
namespace Go.Proofs.Ytpfibofoeblapaa
open Go Go.RowKit
def HoleS (e : TypeId) (t : Ty) (xs : List t.den) (v : Value) (i : Nat) (H : Hp) (S : Bs) : Prop :=
  ∃ g pre ci post So, S g ∧ ¬ So g ∧ In So S ∧ (∀ j, eaddr v j = .pointer (some ⟨g, j, none⟩)) ∧ v.ownBlock = some g ∧ H g = some (.cells (pre ++ (ci ++ post)).toArray e (0, 0)) ∧ pre.length = i * t.sz ∧ ci.length = t.sz ∧
    ∀ (H' : Hp) (x' : t.den) (ci' : List Value) (Si U : Bs), ci'.length = t.sz → (∀ b, So b → H' b = H b) → H' g = some (.cells (pre ++ (ci' ++ post)).toArray e (0, 0)) → Own t H' x' ci' Si → ¬ Si g → Apart Si So → U g → In Si U → In So U → Own (.sl e t) H' (xs.set i x') [v] U
section
variable {P : Program} {s : Sl} {w w' w0 : World} {H H' : Hp} {F G : List Ob} {S S' : Bs} {d : Option Tmp} {ty : TypeId} {pos : String} {af : Array Edge} {gd : Option (Nat × Bool)} {x y z : Operand} {T : TypeId} {t : Ty} {v : Value} {e : TypeId} {xs : List t.den} {i : Nat}
theorem HoleS.pr (h : HoleS e t xs v i H S) : (Ob.pr (HoleS e t xs v i)).A H S := by
  obtain ⟨g, pre, ci, post, So, h1, h2, h3, h4, h5, h6, h7, h8, h9⟩ := h
  exact fun H1 U hH hS => ⟨g, pre, ci, post, So, hS g h1, h2, fun b h => hS b (h3 b h), h4, h5, (hH g h1).trans h6, h7, h8, fun H' x' ci' Si U' a b => h9 H' x' ci' Si U' a fun c hc => (b c hc).trans (hH c (h3 c hc))⟩
theorem St.opnS {i : Int} {ci : List Value} (HS : St w0 H w (.ow (.sl e t) xs [v] :: F)) (h0 : 0 ≤ i) (h1 : i < (xs.length : Int)) (hl : AtH (hp w) (eaddr v (i.toNat * t.sz)) ci) (hc : ci.length = t.sz) :
    St w0 H w (.ow t (xs.getD i.toNat t.dflt) ci :: .pr (HoleS e t xs v i.toNat) :: F) := by
  have hi : i.toNat < xs.length := by omega
  have HA := HS.opnA h0 h1 hl hc
  obtain ⟨S1, S2, i1, i2, ap, ho, r⟩ := HS.own
  rcases ho with ⟨_, rfl⟩ | ⟨g, c, ds, rs, S', e1, hg, hn, hT, hb, k1, k2, k3, k4⟩
  · simp at hi
  obtain ⟨pre, ci', post, Si, So, e2, hlen, hin, hon, apo, hoi, hu⟩ := k4.opn i.toNat hi
  subst e2
  obtain rfl : v = .slice (some ⟨g, 0, none⟩) xs.length c := by simpa using e1
  have hea : ∀ j, eaddr (.slice (some ⟨g, 0, none⟩) xs.length c) j = .pointer (some ⟨g, j, none⟩) := by
    intro j
    show Value.pointer (some ((⟨g, 0, none⟩ : Addr).add j)) = _
    unfold Addr.add; split <;> simp_all
  have hat : AtH (hp w) (eaddr (.slice (some ⟨g, 0, none⟩) xs.length c) (i.toNat * t.sz)) ci' := by
    have hcs := csH_block (H := hp w) (g := g) (ds := pre ++ (ci' ++ post)) (rs := rs) (e := e) (f := (0, 0)) hb
    refine ⟨(⟨g, 0, none⟩ : Addr).add (i.toNat * t.sz), rfl, ?_⟩
    have := hcs.drop.take (cs := ci') (ds := post)
    rw [hlen] at this; exact this
  obtain rfl : ci' = ci := hat.uniq hl ((Own.len hoi).trans hc.symm)
  refine HS.with_own ⟨Si, fun b => b = g ∨ So b ∨ S2 b, fun b h => i1 b (hT b (hin b h)), ?_, ?_, hoi, fun b => b = g ∨ So b, S2, fun b h => h.elim .inl fun h => .inr (.inl h), fun b h => .inr (.inr h), ?_, HoleS.pr ⟨g, pre, ci', post ++ rs, So, .inl rfl, fun h => hn (hon g h), fun b h => .inr h, hea, rfl, by simpa using hb, hlen, hc, ?_⟩, r⟩
  · rintro b (rfl | h | h)
    · exact i1 _ hg
    · exact i1 b (hT b (hon b h))
    · exact i2 b h
  · rintro b hb' (rfl | h | h)
    · exact hn (hin _ hb')
    · exact apo b hb' h
    · exact ap b (hT b (hin b hb')) h
  · rintro b (rfl | hb') h2
    · exact ap _ hg h2
    · exact ap b (hT b (hon b hb')) h2
  · intro H' x' c2 Sx U hlc hH hgb hx hxg hap hUg hxU hSU
    refine .inr ⟨g, c, pre ++ (c2 ++ post), rs, fun b => Sx b ∨ So b, by simp, hUg, ?_, ?_, by simpa using hgb, ?_, by simpa using k2, ⟨k3.1, by simpa using k3.2⟩, hu H' x' c2 Sx _ hH hx hap (fun b h => .inl h) fun b h => .inr h⟩
    · rintro (h | h)
      · exact hxg h
      · exact hn (hon g h)
    · rintro b (h | h)
      · exact hxU b h
      · exact hSU b h
    · rw [← k1]; simp [hlc, hc]
/-- What is put in its place. -/
theorem o_sths {i : Int} {x' : t.den} {cs : List Value} {V : Value} (HS : St w0 H w (.ow t x' cs :: .pr (HoleS e t xs v i.toNat) :: F)) (hT : stB P T t.sz = true) (hx : ev s x = eaddr v (i.toNat * t.sz)) (hy : ev s y = V) (hV : vcs V = cs) :
    OpR P ⟨d, .store T x y, ty, pos, af, gd⟩ s w fun u w' => u = undef ∧ (∀ M : Nat → Prop, (∀ g, v.ownBlock = some g → M g) → Kp M w w') ∧ St w0 H w' (.ow (.sl e t) (xs.set i.toNat x') [v] :: F) := by
  obtain ⟨S1, S2, i1, i2, ap, hox, T1, T2, j1, j2, ap', hh, r⟩ := HS.own
  obtain ⟨g, pre, ci, post, So, hg, hn, hS, hea, hob, hb, hl, hci, hu⟩ := hh (hp w) T1 (fun _ _ => rfl) fun _ h => h
  have hcs : cs.length = t.sz := hox.len
  have hpl := hox.plain
  rw [hea] at hx
  simp only [stB, Bool.and_eq_true] at hT
  obtain ⟨ti, hti⟩ := Option.isSome_iff_exists.1 hT.1
  have hnn := Nat.eq_of_beq_eq_true hT.2
  simp [Program.cellsOf, hti] at hnn
  have hst := run_storeCells (P := P) (g := g) (T := e) cs w (pre ++ (ci ++ post)) (i.toNat * t.sz) 0 hb hpl (by simp [hl, hcs, hci])
  have hsp : spl (pre ++ (ci ++ post)) (i.toNat * t.sz + 0) cs = pre ++ (cs ++ post) := by
    have e3 : i.toNat * t.sz + 0 + cs.length = (pre ++ ci).length := by simp [hl, hcs, hci]
    unfold spl
    rw [e3, show pre ++ (ci ++ post) = (pre ++ ci) ++ post from by simp, List.drop_left, Nat.add_zero, ← hl, show (pre ++ ci) ++ post = pre ++ (ci ++ post) from by simp, List.take_left]
    simp
  rw [hsp] at hst
  have hc : V.cells = cs.toArray := by rw [← hV]; simp [vcs]
  have hsv : (storeVar T ⟨g, i.toNat * t.sz, none⟩ V).run P w = .ok () (setB w g (.cells (pre ++ (cs ++ post)).toArray e (0, 0))) := by
    unfold storeVar
    rw [hc]
    simp only [Sem.run_bind, run_sizeOf hti, Result.andThen, hnn, List.size_toArray, hcs, ne_eq, not_true_eq_false, if_false, Sem.run_pure]
    exact hst
  have hr : (execOp (ev s) ⟨d, .store T x y, ty, pos, af, gd⟩).run P w = .ok .skip (setB w g (.cells (pre ++ (cs ++ post)).toArray e (0, 0))) := by
    simp only [execOp, Instr.storeAt, hx, hy, Instr.sureAddr, Sem.run_bind, Sem.run_pure, Result.andThen, hsv]
  have hgl : g < w.heap.size := (i2 g (j1 g hg)).2
  have hgn : H g = none := (i2 g (j1 g hg)).1
  have hot : ∀ b, b ≠ g → hp (setB w g (.cells (pre ++ (cs ++ post)).toArray e (0, 0))) b = hp w b := fun b hb => setB_ne _ hb
  unfold OpR
  rw [hr]
  refine ⟨rfl, fun M hM => ⟨by simp [setB], fun k hk hn => setB_ne _ fun e => hn (e ▸ hM g hob)⟩, HS.os, HS.tape, HS.out, by simpa [setB] using HS.size, fun b o eb => ?_, fun b => S1 b ∨ T1 b, T2, ?_, fun b hb => by simpa [setB] using i2 b (j2 b hb), ?_, ?_, r.loc (fun b hb => hot b fun e => ap' b (e ▸ hg) hb) fun _ h => h⟩
  · have : b ≠ g := fun e => by rw [e, hgn] at eb; cases eb
    exact (hot b this).trans (HS.sub _ _ eb)
  · rintro b (hb | hb)
    · simpa [setB] using i1 b hb
    · simpa [setB] using i2 b (j1 b hb)
  · rintro b (hb | hb) h2
    · exact ap b hb (j2 b h2)
    · exact ap' b hb h2
  · exact hu _ x' cs S1 _ hcs (fun b hb => hot b fun e => hn (e ▸ hb)) (setB_at _ hgl) (hox.loc (fun b hb => hot b fun e => ap b hb (j1 b (e ▸ hg))) fun _ h => h) (fun h => ap g h (j1 g hg)) (fun b h1 h2 => ap b h1 (j1 b (hS b h2))) (.inr hg) (fun b h => .inl h) fun b h => .inr (hS b h)
theorem r_sslice {p : ByteArray} {a b : Int} (hT : strB P T = true) (h : 0 ≤ a ∧ a ≤ b ∧ b ≤ (p.size : Int)) (hx : ev s x = .string p) (hy : ev s y = iv a) (hz : ev s z = iv b) :
    (execOp (ev s) ⟨d, .slice T x (some y) (some z) none, ty, pos, af, gd⟩).run P w = .ok (.value (.string (p.extract a.toNat b.toNat))) w := by
  have hu := strB_und hT
  have h2 := run_sliceAt_string (P := P) w T (.string p) (some (iv a)) (some (iv b)) none hu
  rw [run_slice_string w T p .i64 .i64 a b hu h.1 h.2.1 h.2.2] at h2
  have e : (execOp (ev s) ⟨d, .slice T x (some y) (some z) none, ty, pos, af, gd⟩).run P w = ((Instr.sliceAt T (ev s x) (some (ev s y)) (some (ev s z)) none).run P w).andThen fun v w => .ok (.value v) w := by
    simp only [execOp, Option.map_some, Option.map_none, Sem.run_bind, Sem.run_pure]
  rw [e, hx, hy, hz, h2]
  rfl
end
end Go.Proofs.Ytpfibofoeblapaa
