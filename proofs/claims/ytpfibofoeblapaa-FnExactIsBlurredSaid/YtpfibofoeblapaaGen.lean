/- What the printed walks lean on. -/
import Derived.Test.YtpfibofoeblapaaPost
set_option linter.unusedVariables false
set_option linter.unusedSimpArgs false
namespace Go.Proofs.Ytpfibofoeblapaa
open Go Go.RowKit
abbrev NodeD : Type := List Int × List Int × Int × Int
abbrev dN : NodeD := ([], [], 0, 0)

/-- Objects in another order; m of the rest are let go. -/
def sel : List Nat → Nat → List Ob → Option (List Ob)
  | [], m, F => some (F.drop m)
  | i :: l, m, F => match F[i]? with | some o => (match sel l m (F.eraseIdx i) with | some G => some (o :: G) | none => none) | none => none
theorem Owns.drop {H : Hp} : ∀ {F : List Ob} {S : Bs} (m : Nat), Owns H F S → Owns H (F.drop m) S
  | F, _, 0, h => by simpa using h
  | [], _, m + 1, h => trivial
  | o :: F, S, m + 1, ⟨S1, S2, i1, i2, ap, _, r⟩ => by
    simpa using Owns.drop m (r.loc (fun _ _ => rfl) i2)
theorem Owns.sel {H : Hp} : ∀ (l : List Nat) (m : Nat) {F G : List Ob} {S : Bs}, Go.Proofs.Ytpfibofoeblapaa.sel l m F = some G → Owns H F S → Owns H G S
  | [], m, F, G, S, h, k => by
    obtain rfl := Option.some.inj h
    exact k.drop m
  | i :: l, m, F, G, S, h, k => by
    simp only [Go.Proofs.Ytpfibofoeblapaa.sel] at h
    cases ho : F[i]? with
    | none => simp [ho] at h
    | some o =>
      simp only [ho] at h
      cases hg : Go.Proofs.Ytpfibofoeblapaa.sel l m (F.eraseIdx i) with
      | none => simp [hg] at h
      | some G' =>
        simp only [hg] at h
        obtain rfl := Option.some.inj h
        obtain ⟨S1, S2, i1, i2, ap, a, r⟩ := k.front i ho
        exact ⟨S1, S2, i1, i2, ap, a, Owns.sel l m hg r⟩
theorem jn_exit {P : Program} {J : Sl → World → Prop} {Q : Exit → Sl → World → Prop} {s : Sl} {w : World} {k : Nat} (h : Q (.exit k) s w) : joinQ J Q (.exit k) s w := h
theorem jn_ret {J : Sl → World → Prop} {Q : Exit → Sl → World → Prop} {s : Sl} {w : World} (h : Q .ret s w) : joinQ J Q .ret s w := h
theorem tq_ret {P : Program} {n : Nat} {z : Code} {Q : Exit → Sl → World → Prop} {s : Sl} {w : World} (h : Q .ret s w) : thenQ z P n Q .ret s w := h
theorem blk_ret {id : Nat} {Q : Exit → Sl → World → Prop} {s : Sl} {w : World} (h : Q .ret s w) : blkQ id Q .ret s w := h
section
variable {P : Program} {s : Sl} {w w' w0 : World} {H H' : Hp} {F G : List Ob} {d : Option Tmp} {ty : TypeId} {pos : String} {af : Array Edge} {gd : Option (Nat × Bool)} {x y z : Operand} {T T' : TypeId} {t u : Ty} {v : Value} {e : TypeId}
theorem St.sel (HS : St w0 H w F) (l : List Nat) (m : Nat) (h : Go.Proofs.Ytpfibofoeblapaa.sel l m F = some G) : St w0 H w G := HS.own1 fun _ k => k.sel l m h
theorem vcs_pl (h : plainV v = true) : vcs v = [v] := by cases v <;> first | rfl | cases h
theorem Rd.pl {xs : List t.den} (h : Rd (.sl e t) H xs [v]) : plainV v = true := h.plain v (by simp)
theorem Rd.vc {xs : List t.den} (h : Rd (.sl e t) H xs [v]) : vcs v = [v] := vcs_pl h.pl
theorem Rd.nil : Rd (.sl e t) H [] [.slice none 0 0] := ⟨none, 0, rfl, Nat.le_refl _, Nat.zero_le _, .inl rfl⟩
def VC : List Value → List (List Value) → Prop
  | [], [] => True
  | v :: vs, c :: cs => vcs v = c ∧ VC vs cs
  | _, _ => False
theorem vc0 : VC [] [] := trivial
theorem vc {v : Value} {c : List Value} {vs : List Value} {cs : List (List Value)} (h : vcs v = c) (k : VC vs cs) : VC (v :: vs) (c :: cs) := ⟨h, k⟩
theorem VC.flat : ∀ {vs : List Value} {cs : List (List Value)}, VC vs cs → vs.flatMap vcs = cs.flatten
  | [], [], _ => rfl
  | v :: vs, c :: cs, ⟨h, k⟩ => by simp [h, VC.flat k]
  | [], _ :: _, h => h.elim
  | _ :: _, [], h => h.elim
theorem VC.sz {n : Nat} : ∀ {vs : List Value} {cs : List (List Value)}, VC vs cs → (cs.all fun c => Nat.beq c.length n) = true → ∀ v ∈ vs, v.cells.size = n
  | [], [], _, _ => by simp
  | v :: vs, c :: cs, ⟨h, k⟩, hn => by
    simp only [List.all_cons, Bool.and_eq_true] at hn
    intro u hu
    rcases List.mem_cons.1 hu with rfl | hu
    · have := Nat.eq_of_beq_eq_true hn.1
      rw [← h] at this; simpa [vcs] using this
    · exact VC.sz k hn.2 u hu
  | [], _ :: _, h, _ => h.elim
  | _ :: _, [], h, _ => h.elim
def PL (vs : List Value) : Prop := ∀ v ∈ vs, plainV v = true
theorem pl0 : PL [] := by intro v h; cases h
theorem pl {v : Value} {vs : List Value} (h : plainV v = true) (k : PL vs) : PL (v :: vs) := by
  intro u hu
  rcases List.mem_cons.1 hu with rfl | hu
  · exact h
  · exact k u hu
def stB (P : Program) (T : TypeId) (n : Nat) : Bool := (P.info? T).isSome && Nat.beq (P.cellsOf T) n
/-- A store into the first object, a box. -/
theorem o_str {g off n : Nat} {l vs l' : List Value} {V : Value} (HS : St w0 H w (.bx g T' l :: F)) (hx : ev s x = .pointer (some ⟨g, off, none⟩)) (hy : ev s y = V) (hv : vcs V = vs)
    (hT : stB P T n = true) (hn : vs.length = n) (hl : Nat.ble (off + vs.length) l.length = true) (hp : PL vs) (hE : spl l off vs = l') :
    OpR P ⟨d, .store T x y, ty, pos, af, gd⟩ s w fun v w' => v = undef ∧ (∀ M : Nat → Prop, M g → Kp M w w') ∧ St w0 H w' (.bx g T' l' :: F) := by
  simp only [stB, Bool.and_eq_true] at hT
  refine (o_st (n := n) HS hx hy hv hT.1 ((Nat.eq_of_beq_eq_true hT.2).trans hn.symm) (Nat.le_of_ble_eq_true hl) hp).mono ?_
  rintro v w' ⟨rfl, rfl, h⟩
  subst hE
  refine ⟨rfl, fun M hM => ⟨by simp [setB], fun k hk hn => ?_⟩, h⟩
  exact setB_ne _ fun e => hn (e ▸ hM)
/-! ### composite literals -/
def fillL (pl : List (Nat × Nat)) : List Value → List (Nat × List Value) → Option (List Value)
  | z, [] => some z
  | z, (i, c) :: r => match pl[i]? with
    | some (off, n) => bif Nat.beq c.length n && Nat.ble (off + n) z.length then fillL pl (spl z off c) r else none
    | none => none
def bzB (P : Program) (T : TypeId) (pl : List (Nat × Nat)) (z : List Value) : Prop := ∀ (parts : Array (Nat × Value)) (cells : Array Value) (w : World),
  Instr.fill (pl.toArray[·]?) z.toArray parts.toList = some cells → (Instr.build T parts).run P w = .ok (.agg cells) w
def VP : List (Nat × Value) → List (Nat × List Value) → Prop
  | [], [] => True
  | (i, v) :: vs, (j, c) :: cs => i = j ∧ vcs v = c ∧ VP vs cs
  | _, _ => False
theorem vp0 : VP [] [] := trivial
theorem vp {v : Value} {i : Nat} {c : List Value} {vs : List (Nat × Value)} {cs : List (Nat × List Value)} (h : vcs v = c) (k : VP vs cs) : VP ((i, v) :: vs) ((i, c) :: cs) := ⟨rfl, h, k⟩
theorem fill_fillL {pl : List (Nat × Nat)} : ∀ {ps : List (Nat × Value)} {cs : List (Nat × List Value)} {z r : List Value}, VP ps cs → fillL pl z cs = some r → Instr.fill (pl.toArray[·]?) z.toArray ps = some r.toArray
  | [], [], z, r, _, h => by obtain rfl := Option.some.inj h; rfl
  | (i, v) :: ps, (j, c) :: cs, z, r, ⟨e, hv, k⟩, h => by
    subst e
    simp only [fillL] at h
    cases hp : pl[i]? with
    | none => simp [hp] at h
    | some on =>
      obtain ⟨off, n⟩ := on
      simp only [hp, cond_eq_ite, Bool.and_eq_true] at h
      split at h
      · rename_i hc
        have hn := Nat.eq_of_beq_eq_true hc.1
        have hl := Nat.le_of_ble_eq_true hc.2
        have hs : v.cells.size = n := by rw [← hn, ← hv]; simp [vcs]
        have hz : v.cells.zipIdx.foldl (fun cs (cj : Value × Nat) => cs.setIfInBounds (off + cj.2) cj.1) z.toArray = (spl z off c).toArray := by
          have := fold_set c 0 off z.toArray (by simp; omega)
          rw [Nat.add_zero] at this
          rw [← this, ← hv]
          unfold vcs
          rw [← Array.foldl_toList]
          simp
        simp only [Instr.fill, List.getElem?_toArray, hp]
        rw [if_neg (by simp [hs]; omega)]
        simp only [← List.getElem?_toArray]
        refine (congrArg (fun q => Instr.fill _ q _) hz).trans ?_
        exact fill_fillL k h
      · cases h
  | [], _ :: _, _, _, h, _ => h.elim
  | _ :: _, [], _, _, h, _ => h.elim
theorem r_bld {pl : List (Nat × Nat)} {z0 : List Value} {parts : Array (Nat × Operand)} {ps : List (Nat × Value)} {cs : List (Nat × List Value)} {cells : List Value} (hz : bzB P T pl z0)
    (hm : parts.toList.map (fun p => (p.1, ev s p.2)) = ps) (hv : VP ps cs) (hf : fillL pl z0 cs = some cells) :
    (execOp (ev s) ⟨d, .build T parts, ty, pos, af, gd⟩).run P w = .ok (.value (.agg cells.toArray)) w := by
  have hb := hz (parts.map fun (i, x) => (i, ev s x)) cells.toArray w (by
    have : (parts.map fun (i, x) => (i, ev s x)).toList = ps := by rw [← hm]; simp
    rw [this]; exact fill_fillL hv hf)
  simp only [execOp, Sem.run_bind, Sem.run_pure, hb, Result.andThen_ok]
theorem o_bsv {n len : Nat} {vs : List Value} {css : List (List Value)} {cs : List Value} {parts : Array (Nat × Operand)} (HS : St w0 H w F) (hT : slB P T e n = true) (hA : apB P e n) (hp : parts.toList.map (fun p => (p.1, ev s p.2)) = seqV 0 vs) (hl : vs.length = len)
    (hv : VC vs css) (hn : (css.all fun c => Nat.beq c.length n) = true) (hc : css.flatten = cs) (hsm : len * n ≤ 16777216) :
    OpR P ⟨d, .buildSlice T len parts, ty, pos, af, gd⟩ s w fun v w' => ∃ g, v = .slice (some ⟨g, 0, none⟩) len len ∧ Below w.heap.size w w' ∧ St w0 H w' (.bx g e cs :: F) := by
  have := o_bsl (d := d) (ty := ty) (pos := pos) (af := af) (gd := gd) HS hT hA hp hl (hv.sz hn) hsm
  rw [hv.flat, hc] at this
  exact this
/-! ### closed facts on types, by reckoning, once more -/
def tyV (P : Program) (T : TypeId) : Option (Nat × Nat × Value) := match P.info? T with | some i => (match i.zero with | some z => some (i.size, i.bytes, z) | none => none) | none => none
theorem tyV_out {n b : Nat} {z : Value} (h : tyV P T = some (n, b, z)) : ∃ i, P.info? T = some i ∧ i.size = n ∧ i.bytes = b ∧ i.zero = some z := by
  unfold tyV at h
  split at h
  · rename_i i hi
    split at h
    · rename_i z' hz
      simp only [Option.some.injEq, Prod.mk.injEq] at h
      obtain ⟨rfl, rfl, rfl⟩ := h
      exact ⟨i, hi, rfl, rfl, hz⟩
    · cases h
  · cases h
theorem ap_of {n b : Nat} {z : Value} (h : tyV P T = some (n, b, z)) (h1 : (Nat.blt 0 b && Nat.ble b 1024 && Nat.beq z.cells.size n && Nat.blt 0 n) = true) : apB P T n := by
  obtain ⟨i, hi, h2, h3, h4⟩ := tyV_out h
  simp only [Bool.and_eq_true] at h1
  obtain ⟨⟨⟨a1, a2⟩, a3⟩, a4⟩ := h1
  have a1 : 0 < b := Nat.le_of_ble_eq_true a1
  have a2 := Nat.le_of_ble_eq_true a2
  have a3 := Nat.eq_of_beq_eq_true a3
  have a4 : 0 < n := Nat.le_of_ble_eq_true a4
  exact ⟨i, z, hi, h2, by omega, by omega, h4, a3, a4⟩
theorem ze_of {n b : Nat} {z : Value} (h : tyV P T = some (n, b, z)) : zeB P T z := by
  obtain ⟨i, hi, h2, h3, h4⟩ := tyV_out h
  exact ⟨i, hi, h4⟩
theorem mz_of {n b : Nat} {z : Value} (h : tyV P T = some (n, b, z)) (h1 : Nat.ble b 1024 = true) (hv : vcs z = zc t) : ∃ i z, P.info? T = some i ∧ i.bytes ≤ 1024 ∧ i.zero = some z ∧ vcs z = zc t := by
  obtain ⟨i, hi, h2, h3, h4⟩ := tyV_out h
  have := Nat.le_of_ble_eq_true h1
  exact ⟨i, z, hi, by omega, h4, hv⟩
theorem Sub.weak {K : Hp} (hs : Sub H K) {b : Nat} (h : K b = none) : H b = none := by
  cases e : H b with
  | none => rfl
  | some o => rw [hs b o e] at h; cases h
theorem St.weak (HS : St w0 H' w F) (hs : Sub H H') : St w0 H w F := ⟨HS.os, HS.tape, HS.out, HS.size, hs.trans HS.sub, HS.own.loc (fun _ _ => rfl) fun b hb => ⟨hs.weak hb.1, hb.2⟩⟩
theorem rv_box1 {i g : Nat} {v : Value} {tt : Nat} (HS : St w0 H w F) (hi : F[i]? = some (.bx g T' [v])) (hs : s tt = .pointer (some ⟨g, 0, none⟩)) (hT : scB P T = true) : RV P s w (.cell tt T) v := by
  obtain ⟨j, u, hj, _, hu, h1, h2⟩ := sc_und hT
  have hag := run_isAgg_f hu h1 h2 w
  have hc : w.cell? ⟨g, 0, none⟩ = some v := by
    rw [cell_hp]; have := cs_block1 (HS.box i hi) 0 v rfl; simpa [Addr.add] using this
  refine ⟨_, hs, ?_⟩
  simp [loadVar, go_sem, hag, hc]
/-! ### drawn regions -/
def Mm (H : Hp) (l : List Nat) (k : Nat) : Nat → Prop := bif l.any (Nat.beq k) then Mno else fun b => H b = none
theorem mh {l : List Nat} {i : Nat} (h : l.any (Nat.beq i) = false) : ∀ b o, H b = some o → ¬ Mm H l i b := by
  intro b o e hm
  unfold Mm at hm
  rw [h] at hm
  have hm : H b = none := hm
  rw [hm] at e; cases e
theorem Kp.less {M M' : Nat → Prop} (h : Kp M w w') (hm : ∀ b, M b → M' b) : Kp M' w w' := ⟨h.size, fun b hb hn => h.block b hb fun k => hn (hm b k)⟩
theorem Kp.none {l : List Nat} {i : Nat} (k : Kp (Mm H l i) w w') (h : l.any (Nat.beq i) = true) : Kp Mno w w' := by
  unfold Mm at k
  rw [h] at k; exact k
theorem km_below {Φ : World → Prop} {B : Nat → Nat → Bool} {l : List Nat} {i : Nat} (h : Below w.heap.size w w') (hp : Φ w → Φ w') : ∀ k, B k i = false → B i k = false → KP (Mm H l k) Φ w w' := fun _ _ _ => ⟨Kp.of_below h, hp⟩
/-- What is owned alone is written. -/
theorem km_st {Φ : World → Prop} {B : Nat → Nat → Bool} {l : List Nat} {i : Nat} {m : Nat → Prop} (HS : St w0 H' w F) (hs : Sub H H') (h : Kp m w w') (hm : ∀ b, m b → H' b = none) (hB : (l.all fun k => B k i || B i k) = true) (hp : Φ w → Φ w') : ∀ k, B k i = false → B i k = false → KP (Mm H l k) Φ w w' := by
  intro k hk hk'
  refine ⟨?_, hp⟩
  cases hl : l.any (Nat.beq k) with
  | false =>
    unfold Mm
    rw [hl]
    exact h.less fun b hb => hs.weak (hm b hb)
  | true =>
    rw [List.any_eq_true] at hl
    obtain ⟨j, hj, hjk⟩ := hl
    rw [List.all_eq_true] at hB
    have := hB j hj
    rw [← Nat.eq_of_beq_eq_true hjk, hk, hk'] at this; cases this
theorem own_none {e : TypeId} {xs : List t.den} {v : Value} (HS : St w0 H w (.ow (.sl e t) xs [v] :: F)) : ∀ b, v.ownBlock = some b → H b = none := by
  intro b hb
  obtain ⟨S1, S2, i1, _, _, ho, _⟩ := HS.own
  rcases ho with ⟨e1, _⟩ | ⟨g, c, ds, rs, S', e1, hg, _⟩
  · obtain rfl : v = .slice none 0 0 := by simpa using e1
    cases hb
  · obtain rfl : v = .slice (some ⟨g, 0, none⟩) xs.length c := by simpa using e1
    have : g = b := by simpa [Value.ownBlock] using hb
    exact (i1 b (this ▸ hg)).1
theorem bx_none {g : Nat} {cs : List Value} (HS : St w0 H w (.bx g T cs :: F)) : H g = none := by
  obtain ⟨S1, S2, i1, _, _, ho, _⟩ := HS.own
  exact (i1 g ho.1).1
/-! ### function values -/
/-- What a function value answers, as long as H stands. -/
def Fn1 (P : Program) (H : Hp) (t u : Ty) (v : Value) (p : t.den → Option u.den) : Prop :=
  ∃ f fs cs, v = .func (.func f) fs.toArray cs.toArray ∧ cfB P f = true ∧ ∀ w x c r, Sub H (hp w) → Rd t (hp w) x c → p x = some r → Calls P f (fs ++ [t.val c] ++ cs).toArray w (P1 u w r)
theorem Fn1.sub {p : t.den → Option u.den} (h : Fn1 P H t u v p) (hs : Sub H H') : Fn1 P H' t u v p := by
  obtain ⟨f, fs, cs, e, hf, k⟩ := h
  exact ⟨f, fs, cs, e, hf, fun w x c r hs' => k w x c r (hs.trans hs')⟩
theorem o_f1 {p : t.den → Option u.den} {a : Operand} {at_ : Array TypeId} {r : u.den} {x' : t.den} {c : List Value} (HS : St w0 H w F) (hf : flat u = true) (h : Fn1 P H t u v p) (hx : ev s x = v) (ha : ev s a = t.val c) (hr : Rd t (hp w) x' c) (hp' : p x' = some r) :
    OpR P ⟨d, .call ⟨.value x, #[a], at_⟩, ty, pos, af, gd⟩ s w fun v w' => v = fv u r ∧ Below w.heap.size w w' ∧ St w0 H w' F := by
  obtain ⟨f, fs, cs, rfl, hF, k⟩ := h
  exact o_vf (vs := [t.val c]) (fs := fs) (cs := cs) HS hf (k w x' c r HS.sub hr hp') hF hx (by simp [ha])
/-- .. of two arguments. -/
def Fn2 (P : Program) (H : Hp) (t t' u : Ty) (v : Value) (p : t.den → t'.den → Option u.den) : Prop :=
  ∃ f fs cs, v = .func (.func f) fs.toArray cs.toArray ∧ cfB P f = true ∧ ∀ w x x' c c' r, Sub H (hp w) → Rd t (hp w) x c → Rd t' (hp w) x' c' → p x x' = some r → Calls P f (fs ++ [t.val c, t'.val c'] ++ cs).toArray w (P1 u w r)
theorem Fn2.sub {t' : Ty} {p : t.den → t'.den → Option u.den} (h : Fn2 P H t t' u v p) (hs : Sub H H') : Fn2 P H' t t' u v p := by
  obtain ⟨f, fs, cs, e, hf, k⟩ := h
  exact ⟨f, fs, cs, e, hf, fun w x x' c c' r hs' => k w x x' c c' r (hs.trans hs')⟩
theorem o_f2 {t' : Ty} {p : t.den → t'.den → Option u.den} {a b : Operand} {at_ : Array TypeId} {r : u.den} {x' : t.den} {y' : t'.den} {c c' : List Value} (HS : St w0 H w F) (hf : flat u = true) (h : Fn2 P H t t' u v p) (hx : ev s x = v) (ha : ev s a = t.val c) (hb : ev s b = t'.val c')
    (hr : Rd t (hp w) x' c) (hr' : Rd t' (hp w) y' c') (hp' : p x' y' = some r) :
    OpR P ⟨d, .call ⟨.value x, #[a, b], at_⟩, ty, pos, af, gd⟩ s w fun v w' => v = fv u r ∧ Below w.heap.size w w' ∧ St w0 H w' F := by
  obtain ⟨f, fs, cs, rfl, hF, k⟩ := h
  exact o_vf (vs := [t.val c, t'.val c']) (fs := fs) (cs := cs) HS hf (k w x' y' c c' r HS.sub hr hr' hp') hF hx (by simp [ha, hb])
/-! ### more light operations -/
theorem dec_bool (p q : Bool) : (p == q) = decide (p = q) := by cases p <;> cases q <;> rfl
def boB (P : Program) (T : TypeId) : Bool := (match P.underlying T with | some .bool => true | _ => false)
theorem boB_und (h : boB P T = true) : P.underlying T = some .bool := by
  unfold boB at h
  split at h
  · assumption
  · cases h
theorem r_beql {p q : Bool} (hx : ev s x = .bool p) (hy : ev s y = .bool q) (hT : boB P T = true) : (execOp (ev s) ⟨d, .binOp .eql T x y T', ty, pos, af, gd⟩).run P w = .ok (.value (.bool (decide (p = q)))) w := by
  have h := run_equalIn_bool (P := P) w 9999 T p q (boB_und hT)
  rw [← dec_bool]; simp [execOp, hx, hy, eqGuard, binOp, go_sem, Op.equal, Op.maxDepth, h]
theorem r_bneq {p q : Bool} (hx : ev s x = .bool p) (hy : ev s y = .bool q) (hT : boB P T = true) : (execOp (ev s) ⟨d, .binOp .neq T x y T', ty, pos, af, gd⟩).run P w = .ok (.value (.bool (!decide (p = q)))) w := by
  have h := run_equalIn_bool (P := P) w 9999 T p q (boB_und hT)
  rw [← dec_bool]; simp [execOp, hx, hy, eqGuard, binOp, go_sem, Op.equal, Op.maxDepth, h, bne]
theorem dec_strl (p q : ByteArray) : (p.toList == q.toList) = decide (p.toList = q.toList) := by
  by_cases h : p.toList = q.toList
  · simp [h]
  · rw [decide_eq_false h]; simpa using h
theorem r_seql {p q : ByteArray} (hx : ev s x = .string p) (hy : ev s y = .string q) : (execOp (ev s) ⟨d, .binOp .eql T x y T', ty, pos, af, gd⟩).run P w = .ok (.value (.bool (decide (p.toList = q.toList)))) w := by
  rw [← dec_strl]; simp [execOp, hx, hy, eqGuard, binOp, go_sem, Op.stringOp]
theorem r_sneq {p q : ByteArray} (hx : ev s x = .string p) (hy : ev s y = .string q) : (execOp (ev s) ⟨d, .binOp .neq T x y T', ty, pos, af, gd⟩).run P w = .ok (.value (.bool (!decide (p.toList = q.toList)))) w := by
  rw [← dec_strl]; simp [execOp, hx, hy, eqGuard, binOp, go_sem, Op.stringOp, bne]
theorem r_slss {p q : ByteArray} (hx : ev s x = .string p) (hy : ev s y = .string q) : (execOp (ev s) ⟨d, .binOp .lss T x y T', ty, pos, af, gd⟩).run P w = .ok (.value (.bool (decide (Op.bytesLess p.toList q.toList = true)))) w := by
  have e : decide (Op.bytesLess p.toList q.toList = true) = Op.bytesLess p.toList q.toList := by cases Op.bytesLess p.toList q.toList <;> rfl
  rw [e]; simp [execOp, hx, hy, eqGuard, binOp, go_sem, Op.stringOp]
theorem r_sadd {p q : ByteArray} (hx : ev s x = .string p) (hy : ev s y = .string q) (h : p.size + q.size ≤ lim) : (execOp (ev s) ⟨d, .binOp .add T x y T', ty, pos, af, gd⟩).run P w = .ok (.value (.string (p ++ q))) w := by
  have h1 : ¬ (((p.size + q.size : Nat) : Int) > IntKind.i64.max) := by
    have : IntKind.i64.max = 9223372036854775807 := by decide
    rw [this]; unfold lim at h; omega
  have h2 : (Op.stringOp .add p q).run P w = .ok (.string (p ++ q)) w := by
    unfold Op.stringOp
    simp only [if_neg h1]; rfl
  simp [execOp, hx, hy, eqGuard, binOp, go_sem, h2]
end
end Go.Proofs.Ytpfibofoeblapaa
