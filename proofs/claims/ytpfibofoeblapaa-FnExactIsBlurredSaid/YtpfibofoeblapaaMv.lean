/- Slices of what is owned; elements that move from one row to another. -/
import Derived.Test.YtpfibofoeblapaaMk
set_option linter.unusedVariables false
set_option linter.unusedSimpArgs false
namespace Go.Proofs.Ytpfibofoeblapaa
open Go Go.RowKit
def vlo (v : Value) (l sz : Nat) : Value := match v with | .slice a n c => sliced a l n c sz | v => v
def vhi (v : Value) (h sz : Nat) : Value := match v with | .slice a n c => sliced a 0 h c sz | v => v
theorem add_z (a : Addr) : a.add 0 = a := by simp [Addr.add]
theorem RdC.cut {t : Ty} {H : Hp} : ∀ {xs : List t.den} {ds : List Value} (l : Nat), RdC (Rd t H) xs ds → l ≤ xs.length → ∃ d1 d2, ds = d1 ++ d2 ∧ d1.length = l * t.sz ∧ RdC (Rd t H) (xs.take l) d1 ∧ RdC (Rd t H) (xs.drop l) d2
  | xs, ds, 0, h, _ => ⟨[], ds, by simp, by simp, by simp [RdC], by simpa using h⟩
  | [], _, l + 1, _, hl => absurd hl (by simp)
  | x :: xs, _, l + 1, ⟨c1, c2, rfl, h1, h2⟩, hl => by
    obtain ⟨d1, d2, rfl, e, k1, k2⟩ := RdC.cut l h2 (by simpa using hl)
    exact ⟨c1 ++ d1, d2, by simp, by rw [List.length_append, h1.len, e, Nat.add_mul]; omega, ⟨c1, d1, rfl, h1, k1⟩, k2⟩
theorem OwnC.cut {t : Ty} {H : Hp} : ∀ {xs : List t.den} {ds : List Value} {S : Bs} (l : Nat), OwnC (Own t H) xs ds S → l ≤ xs.length →
    ∃ d1 d2 S1 S2, ds = d1 ++ d2 ∧ d1.length = l * t.sz ∧ In S1 S ∧ In S2 S ∧ Apart S1 S2 ∧ OwnC (Own t H) (xs.take l) d1 S1 ∧ OwnC (Own t H) (xs.drop l) d2 S2
  | xs, ds, S, 0, h, _ => ⟨[], ds, fun _ => False, S, by simp, by simp, fun _ h => h.elim, fun _ h => h, fun _ h => h.elim, by simp [OwnC], by simpa using h⟩
  | [], _, _, l + 1, _, hl => absurd hl (by simp)
  | x :: xs, _, S, l + 1, ⟨c1, c2, T1, T2, rfl, i1, i2, ap, h1, h2⟩, hl => by
    obtain ⟨d1, d2, S1, S2, rfl, e, j1, j2, ap', k1, k2⟩ := OwnC.cut l h2 (by simpa using hl)
    refine ⟨c1 ++ d1, d2, fun b => T1 b ∨ S1 b, S2, by simp, by rw [List.length_append, h1.len, e, Nat.add_mul]; omega, ?_, fun b hb => i2 b (j2 b hb), ?_, ⟨c1, d1, T1, S1, rfl, fun b h => .inl h, fun b h => .inr h, fun b a b' => ap b a (j1 b b'), h1, k1⟩, k2⟩
    · rintro b (h | h)
      · exact i1 b h
      · exact i2 b (j1 b h)
    · rintro b (h | h) h'
      · exact ap b h (j2 b h')
      · exact ap' b h h'
section
variable {P : Program} {s : Sl} {w w' w0 : World} {H : Hp} {F G : List Ob} {d : Option Tmp} {ty : TypeId} {pos : String} {af : Array Edge} {gd : Option (Nat × Bool)} {x y z : Operand} {T : TypeId} {t : Ty} {v u : Value} {e : TypeId} {xs ys : List t.den}
theorem Rd.lo {l : Nat} (h : Rd (.sl e t) H xs [v]) (hl : l ≤ xs.length) : Rd (.sl e t) H (xs.drop l) [vlo v l t.sz] := by
  obtain ⟨A, c, ev, hc, hb, hh⟩ := h
  obtain rfl : v = _ := by simpa using ev
  refine ⟨(if c = l then A else A.map (·.add (l * t.sz))), c - l, by simp [vlo, sliced], by simp; omega, by simp; omega, ?_⟩
  by_cases h0 : xs.drop l = []
  · exact .inl h0
  · have hlt : l < xs.length := by
      rcases Nat.lt_or_ge l xs.length with h | h
      · exact h
      · exact absurd (List.drop_of_length_le h) h0
    rcases hh with rfl | ⟨a, ds, rfl, k1, k2⟩
    · simp at hlt
    · obtain ⟨d1, d2, rfl, e1, _, k3⟩ := k1.cut l hl
      refine .inr ⟨a.add (l * t.sz), d2, by rw [if_neg (by omega)]; rfl, k3, ?_⟩
      have := k2.drop
      rwa [e1] at this
theorem Rd.hi {l : Nat} (h : Rd (.sl e t) H xs [v]) (hl : l ≤ xs.length) : Rd (.sl e t) H (xs.take l) [vhi v l t.sz] := by
  obtain ⟨A, c, ev, hc, hb, hh⟩ := h
  obtain rfl : v = _ := by simpa using ev
  refine ⟨(if c = 0 then A else A.map (·.add (0 * t.sz))), c, by simp [vhi, sliced, Nat.min_eq_left hl], by simp; omega, by simp; omega, ?_⟩
  rcases hh with rfl | ⟨a, ds, rfl, k1, k2⟩
  · exact .inl (by simp)
  · obtain ⟨d1, d2, rfl, e1, k3, _⟩ := k1.cut l hl
    refine .inr ⟨a, d1, ?_, k3, k2.take⟩
    split
    · rfl
    · simp [add_z]
theorem r_sllo {l : Int} (hr : Rd (.sl e t) H xs [v]) (h0 : 0 ≤ l) (h1 : l ≤ (xs.length : Int)) (hT : slB P T e t.sz = true) (hx : ev s x = v) (hy : ev s y = iv l) :
    (execOp (ev s) ⟨d, .slice T x (some y) none none, ty, pos, af, gd⟩).run P w = .ok (.value (vlo v l.toNat t.sz)) w := by
  obtain ⟨A, c, e1, hc, hb, hh⟩ := hr
  obtain rfl : v = _ := by simpa using e1
  obtain ⟨ti, hti, hts, hun⟩ := sl_und hT
  have hel : P.underlying T = some (.slice (P.elem T)) := by rw [hun]; simp [Program.elem, hun]
  have hel' : P.elem T = e := by rw [hun] at hel; simpa using hel.symm
  have hs := run_slice_l (P := P) w T A xs.length c hel .i64 l h0 h1
  have h2 := run_sliceAt_slice (P := P) w T (.slice A xs.length c) (some (iv l)) none none hel
  rw [hs, hel', run_sizeOf hti, hts] at h2
  simp only [Result.andThen_ok] at h2
  have e : (execOp (ev s) ⟨d, .slice T x (some y) none none, ty, pos, af, gd⟩).run P w = ((Instr.sliceAt T (ev s x) (some (ev s y)) none none).run P w).andThen fun v w => .ok (.value v) w := by
    simp only [execOp, Option.map_some, Option.map_none, Sem.run_bind, Sem.run_pure]
  rw [e, hx, hy, h2]
  rfl
theorem r_slhi {l : Int} (hr : Rd (.sl e t) H xs [v]) (h0 : 0 ≤ l) (h1 : l ≤ (xs.length : Int)) (hT : slB P T e t.sz = true) (hx : ev s x = v) (hy : ev s y = iv l) :
    (execOp (ev s) ⟨d, .slice T x none (some y) none, ty, pos, af, gd⟩).run P w = .ok (.value (vhi v l.toNat t.sz)) w := by
  obtain ⟨A, c, e1, hc, hb, hh⟩ := hr
  obtain rfl : v = _ := by simpa using e1
  obtain ⟨ti, hti, hts, hun⟩ := sl_und hT
  have hel : P.underlying T = some (.slice (P.elem T)) := by rw [hun]; simp [Program.elem, hun]
  have hel' : P.elem T = e := by rw [hun] at hel; simpa using hel.symm
  have hs := run_slice_h (P := P) w T A xs.length c hel .i64 l h0 (by omega)
  have h2 := run_sliceAt_slice (P := P) w T (.slice A xs.length c) none (some (iv l)) none hel
  rw [hs, hel', run_sizeOf hti, hts] at h2
  simp only [Result.andThen_ok] at h2
  have e : (execOp (ev s) ⟨d, .slice T x none (some y) none, ty, pos, af, gd⟩).run P w = ((Instr.sliceAt T (ev s x) none (some (ev s y)) none).run P w).andThen fun v w => .ok (.value v) w := by
    simp only [execOp, Option.map_some, Option.map_none, Sem.run_bind, Sem.run_pure]
  rw [e, hx, hy, h2]
  rfl
theorem Own.hi {S : Bs} {l : Nat} (h : Own (.sl e t) H xs [v] S) (hl : l ≤ xs.length) : Own (.sl e t) H (xs.take l) [vhi v l t.sz] S := by
  rcases h with ⟨h, rfl⟩ | ⟨g, c, ds, rs, S', e1, hg, hn, hT, hb, k1, k2, k3, k4⟩
  · obtain rfl : v = _ := by simpa using h
    have : l = 0 := by simpa using hl
    subst this
    exact .inl ⟨rfl, by simp⟩
  · obtain rfl : v = _ := by simpa using e1
    obtain ⟨d1, d2, S1, S2, rfl, e2, j1, j2, ap, o1, o2⟩ := k4.cut l hl
    refine .inr ⟨g, c, d1, d2 ++ rs, S1, ?_, hg, fun h => hn (j1 g h), fun b hb => hT b (j1 b hb), by simpa using hb, by simpa using k1, by simp; omega, ⟨k3.1, by have := k3.2; simp; omega⟩, o1⟩
    simp only [vhi, sliced, List.length_take, Nat.sub_zero, Nat.min_eq_left hl]
    split
    · rfl
    · simp [add_z]
/-- What is owned is cut at its end. -/
theorem St.hi {l : Int} (HS : St w0 H w (.ow (.sl e t) xs [v] :: F)) (h0 : 0 ≤ l) (h1 : l ≤ (xs.length : Int)) : St w0 H w (.ow (.sl e t) (xs.take l.toNat) [vhi v l.toNat t.sz] :: F) := by
  obtain ⟨S1, S2, i1, i2, ap, ho, r⟩ := HS.own
  exact HS.with_own ⟨S1, S2, i1, i2, ap, Own.hi ho (by omega), r⟩
theorem run_app0 {A B : Option Addr} {n c c' : Nat} (hn : n ≤ c') (hT : slB P T e t.sz = true) : (Builtin.append_ #[T, T] ty #[.slice B n c', .slice A 0 c]).run P w = .ok (.slice B n c') w := by
  obtain ⟨i, hi, hsz, hun⟩ := sl_und hT
  simp [Builtin.append_, underlying, go_sem, hun, sizeOf, typeInfo, hi, Builtin.lenOf, hn]
  cases A with
  | none => cases B <;> simp [Builtin.firstCells, storeCells, go_sem]
  | some a => cases B <;> simp [Builtin.firstCells, loadCells, loadCellsFrom, storeCells, go_sem]
theorem own_form {S : Bs} (h : Own (.sl e t) H xs [v] S) : ∃ B c', v = .slice B xs.length c' ∧ xs.length ≤ c' := by
  rcases h with ⟨e1, rfl⟩ | ⟨g, c', _, _, _, e1, _, _, _, _, _, h2, _⟩
  · exact ⟨none, 0, by simpa using e1, Nat.le_refl _⟩
  · exact ⟨_, _, by simpa using e1, h2⟩
/-- A row's end moves behind another row. -/
theorem o_appmv {l : Int} (HS : St w0 H w (.ow (.sl e t) ys [u] :: .ow (.sl e t) xs [v] :: F)) (h0 : 0 ≤ l) (h1 : l ≤ (xs.length : Int)) (hx : ev s x = u) (hy : ev s y = vlo v l.toNat t.sz) (hT : slB P T e t.sz = true) (hA : apB P e t.sz) (hl : ys.length + (xs.drop l.toNat).length ≤ lim) :
    OpR P ⟨d, .call ⟨.builtin .append, #[x, y], #[T, T]⟩, ty, pos, af, gd⟩ s w fun v' w' => St w0 H w' (.ow (.sl e t) (ys ++ xs.drop l.toNat) [v'] :: .ow (.sl e t) (xs.take l.toNat) [vhi v l.toNat t.sz] :: F) ∧ (∀ M : Nat → Prop, (∀ g, u.ownBlock = some g → M g) → Kp M w w') := by
  have hln : l.toNat ≤ xs.length := by omega
  have hr : Rd (.sl e t) (hp w) xs [v] := HS.rd 1 rfl
  unfold OpR
  rw [run_app_op hx hy]
  by_cases hd : xs.drop l.toNat = []
  · obtain ⟨S1, S2, _, _, _, ho, _⟩ := HS.own
    obtain ⟨B, c', rfl, hB⟩ := own_form ho
    obtain ⟨A, c, e2, _⟩ := hr.lo hln
    rw [hd] at e2
    have e2 : vlo v l.toNat t.sz = .slice A 0 c := by simpa using e2
    rw [e2, run_app0 hB hT]
    refine ⟨?_, fun M _ => Kp.refl _ _⟩
    rw [hd, List.append_nil]
    have := (HS.sel (G := .ow (.sl e t) xs [v] :: .ow (.sl e t) ys [.slice B ys.length c'] :: F) [1, 0] 0 rfl).hi h0 h1
    exact this.sel (G := _ :: _ :: F) [1, 0] 0 rfl
  · have hlt : l.toNat < xs.length := by
      rcases Nat.lt_or_ge l.toNat xs.length with h | h
      · exact h
      · exact absurd (List.drop_of_length_le h) hd
    obtain ⟨S1, S2, i1, i2, ap, ho, T1, T2, j1, j2, ap', hox, r⟩ := HS.own
    rcases hox with ⟨_, rfl⟩ | ⟨g, c, ds, rs, S', e1, hg, hn, hTT, hb, k1, k2, k3, k4⟩
    · simp at hlt
    obtain rfl : v = _ := by simpa using e1
    obtain ⟨d1, d2, U1, U2, rfl, e2, m1, m2, apu, o1, o2⟩ := k4.cut l.toNat hln
    have hcs : CsH (hp w) ⟨g, 0, none⟩ (d1 ++ d2) := csH_block (rs := rs) hb
    have hu : vlo (.slice (some ⟨g, 0, none⟩) xs.length c) l.toNat t.sz = .slice (some ((⟨g, 0, none⟩ : Addr).add (l.toNat * t.sz))) (xs.drop l.toNat).length (c - l.toNat) := by
      simp only [vlo, sliced, List.length_drop]
      rw [if_neg (by omega)]; rfl
    have HS2 : St w0 H w (.ow (.sl e t) ys [u] :: .ow (.sl e t) (xs.take l.toNat) [vhi (.slice (some ⟨g, 0, none⟩) xs.length c) l.toNat t.sz] :: .pr (fun H' S => ∃ S1, In S1 S ∧ OwnC (Own t H') (xs.drop l.toNat) d2 S1) :: F) := by
      refine HS.with_own ⟨S1, S2, i1, i2, ap, ho, fun b => b = g ∨ U1 b, fun b => U2 b ∨ T2 b, ?_, ?_, ?_, ?_, U2, T2, fun b h => .inl h, fun b h => .inr h, fun b h1 h2 => ap' b (hTT b (m2 b h1)) h2, ?_, r⟩
      · rintro b (rfl | h)
        · exact j1 _ hg
        · exact j1 b (hTT b (m1 b h))
      · rintro b (h | h)
        · exact j1 b (hTT b (m2 b h))
        · exact j2 b h
      · rintro b (rfl | h) (h' | h')
        · exact hn (m2 _ h')
        · exact ap' _ hg h'
        · exact apu b h h'
        · exact ap' b (hTT b (m1 b h)) h'
      · have hoo : Own (.sl e t) (hp w) (xs.take l.toNat) [.slice (some ⟨g, 0, none⟩) (xs.take l.toNat).length c] (fun b => b = g ∨ U1 b) :=
          .inr ⟨g, c, d1, d2 ++ rs, U1, rfl, .inl rfl, fun h => hn (m1 g h), fun b h => .inr h, by simpa using hb, by simpa using k1, by simp; omega, ⟨k3.1, by have := k3.2; simp; omega⟩, o1⟩
        have : vhi (.slice (some ⟨g, 0, none⟩) xs.length c) l.toNat t.sz = .slice (some ⟨g, 0, none⟩) (xs.take l.toNat).length c := by
          simp only [vhi, sliced, List.length_take, Nat.sub_zero, Nat.min_eq_left hln]
          split
          · rfl
          · simp [add_z]
        rw [this]; exact hoo
      · intro H' S'' hH hS
        exact ⟨U2, hS, o2.imp (fun _ _ T hT k => k.loc (fun b hb => hH b (hT b hb)) fun _ h => h) fun _ h => h⟩
    obtain ⟨v', w', hrun, h3, h4⟩ := HS2.append (P := P) (T := T) (ty := ty) (ys := xs.drop l.toNat) (u := vlo (.slice (some ⟨g, 0, none⟩) xs.length c) l.toNat t.sz) (ds := d2) (.ow (.sl e t) (xs.take l.toNat) [vhi (.slice (some ⟨g, 0, none⟩) xs.length c) l.toNat t.sz] :: F) (by
      rintro S ⟨A1, A2, a1, a2, apa, q1, B1, B2, b1, b2, apb, q2, q3⟩
      obtain ⟨C1, c1, q4⟩ := q2 (hp w) B1 (fun _ _ => rfl) fun _ h => h
      refine ⟨C1, fun b => A1 b ∨ B2 b, fun b h => a2 b (b1 b (c1 b h)), ?_, ?_, q4, A1, B2, fun b h => .inl h, fun b h => .inr h, fun b h1 h2 => apa b h1 (b2 b h2), q1, q3⟩
      · rintro b (h | h)
        · exact a1 b h
        · exact a2 b (b2 b h)
      · rintro b h1 (h | h)
        · exact apa b h (b1 b (c1 b h1))
        · exact apb b (c1 b h1) h) ⟨_, _, hu, by have := hcs.drop; rwa [e2] at this⟩ hT hA hl
    rw [hrun]
    exact ⟨h3, h4⟩
/-- A row that is owned moves behind another one. -/
theorem o_appall (HS : St w0 H w (.ow (.sl e t) ys [u] :: .ow (.sl e t) xs [v] :: F)) (hx : ev s x = u) (hy : ev s y = v) (hT : slB P T e t.sz = true) (hA : apB P e t.sz) (hl : ys.length + xs.length ≤ lim) :
    OpR P ⟨d, .call ⟨.builtin .append, #[x, y], #[T, T]⟩, ty, pos, af, gd⟩ s w fun v' w' => St w0 H w' (.ow (.sl e t) (ys ++ xs) [v'] :: F) ∧ (∀ M : Nat → Prop, (∀ g, u.ownBlock = some g → M g) → Kp M w w') := by
  unfold OpR
  rw [run_app_op hx hy]
  by_cases hd : xs = []
  · subst hd
    obtain ⟨S1, S2, _, _, _, ho, T1, T2, _, _, _, hox, _⟩ := HS.own
    obtain ⟨B, c', rfl, hB⟩ := own_form ho
    obtain ⟨A, c, rfl, _⟩ := own_form hox
    rw [show ([] : List t.den).length = 0 from rfl, run_app0 hB hT]
    exact ⟨by rw [List.append_nil]; exact HS.sel (G := _ :: F) [0] 1 rfl, fun M _ => Kp.refl _ _⟩
  · obtain ⟨S1, S2, i1, i2, ap, ho, T1, T2, j1, j2, ap', hox, r⟩ := HS.own
    rcases hox with ⟨_, h⟩ | ⟨g, c, ds, rs, S', e1, hg, hn, hTT, hb, k1, k2, k3, k4⟩
    · exact absurd h hd
    obtain rfl : v = _ := by simpa using e1
    have HS2 : St w0 H w (.ow (.sl e t) ys [u] :: .pr (fun H' S => ∃ S1, In S1 S ∧ OwnC (Own t H') xs ds S1) :: F) :=
      HS.with_own ⟨S1, S2, i1, i2, ap, ho, T1, T2, j1, j2, ap', fun H' S'' hH hS => ⟨S', fun b h => hS b (hTT b h), k4.imp (fun _ _ T hT k => k.loc (fun b hb => hH b (hTT b (hT b hb))) fun _ h => h) fun _ h => h⟩, r⟩
    obtain ⟨v', w', hrun, h3, h4⟩ := HS2.append (P := P) (T := T) (ty := ty) (ys := xs) (u := .slice (some ⟨g, 0, none⟩) xs.length c) (ds := ds) F (by
      rintro S ⟨B1, B2, b1, b2, apb, q2, q3⟩
      obtain ⟨C1, c1, q4⟩ := q2 (hp w) B1 (fun _ _ => rfl) fun _ h => h
      exact ⟨C1, B2, fun b h => b1 b (c1 b h), b2, fun b h1 h2 => apb b (c1 b h1) h2, q4, q3⟩) ⟨_, _, rfl, csH_block (rs := rs) hb⟩ hT hA hl
    rw [hrun]
    exact ⟨h3, h4⟩
end
end Go.Proofs.Ytpfibofoeblapaa
