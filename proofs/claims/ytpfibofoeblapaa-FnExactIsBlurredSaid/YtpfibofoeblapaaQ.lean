/- A queue of numbers: a row that is cut at its front and grown at its end. -/
import Derived.Test.YtpfibofoeblapaaOpen
import Derived.ArgAppend
set_option linter.unusedVariables false
set_option linter.unusedSimpArgs false
namespace Go.Proofs.Ytpfibofoeblapaa
open Go Go.RowKit

abbrev IntT : Ty := .int .i64
def QI (e : TypeId) (v : Value) (xs : List Int) (H : Hp) (S : Bs) : Prop := (∃ A, v = .slice A 0 0 ∧ xs = []) ∨ ∃ g o c ps rs, v = .slice (some ⟨g, o, none⟩) xs.length c ∧ S g ∧ H g = some (.cells (ps ++ (xs.map iv ++ rs)).toArray e (0, 0)) ∧ ps.length = o ∧ xs.length + rs.length = c ∧ c ≤ maxLen ∧ xs.length ≤ big
section
variable {e : TypeId} {v : Value} {xs : List Int} {H : Hp} {S : Bs}
theorem QI.loc {H' : Hp} {S' : Bs} (h : ∀ b, S b → H' b = H b) (hS : In S S') (k : QI e v xs H S) : QI e v xs H' S' := by
  rcases k with k | ⟨g, o, c, ps, rs, k1, k2, k3, k4⟩
  · exact .inl k
  · exact .inr ⟨g, o, c, ps, rs, k1, hS g k2, (h g k2).trans k3, k4⟩
theorem QI.pr (k : QI e v xs H S) : (Ob.pr (QI e v xs)).A H S := fun _ _ h hS => k.loc h hS
theorem QI.prd (k : (Ob.pr (QI e v xs)).A H S) : QI e v xs H S := k H S (fun _ _ => rfl) fun _ h => h
theorem ownC_ints {H : Hp} : ∀ {xs : List Int} {ds : List Value} {S : Bs}, OwnC (Own IntT H) xs ds S → ds = xs.map iv
  | [], _, _, k => k
  | x :: xs, _, _, ⟨c1, c2, _, _, e, _, _, _, k1, k2⟩ => by
    obtain rfl : c1 = [iv x] := k1
    obtain rfl := ownC_ints k2
    simpa using e
theorem QI.of (k : Own (.sl e IntT) H xs [v] S) : QI e v xs H S := by
  rcases k with ⟨h, rfl⟩ | ⟨g, c, ds, rs, S', h, h1, h2, h3, h4, h5, h6, h7, h8⟩
  · exact .inl ⟨none, by simpa using h, rfl⟩
  · obtain rfl := ownC_ints h8
    refine .inr ⟨g, 0, c, [], rs, by simpa using h, h1, by simpa using h4, rfl, ?_, h7.1, h7.2⟩
    simpa [Ty.sz] using h5
theorem add_lit' (g o j : Nat) : (⟨g, o, none⟩ : Addr).add j = ⟨g, o + j, none⟩ := by unfold Addr.add; split <;> simp_all
theorem QI.cells {g o : Nat} {ps rs : List Value} (h : H g = some (.cells (ps ++ (xs.map iv ++ rs)).toArray e (0, 0))) (hp : ps.length = o) : CsH H ⟨g, o, none⟩ (xs.map iv) := by
  have := (csH_block (H := H) (g := g) (ds := ps ++ (xs.map iv ++ rs)) (rs := []) (e := e) (f := (0, 0)) (by simpa using h)).drop.take
  rw [hp, add_lit', Nat.zero_add] at this
  exact this
theorem rdC_ints {H : Hp} : ∀ xs : List Int, RdC (Rd IntT H) xs (xs.map iv) := rdC_int
theorem QI.rd (k : QI e v xs H S) : Rd (.sl e IntT) H xs [v] := by
  rcases k with ⟨A, rfl, rfl⟩ | ⟨g, o, c, ps, rs, rfl, k2, k3, k4, k5, k6, k7⟩
  · exact ⟨A, 0, rfl, Nat.le_refl _, Nat.zero_le _, .inl rfl⟩
  · exact ⟨_, c, rfl, by omega, k7, .inr ⟨_, _, rfl, rdC_ints xs, QI.cells k3 k4⟩⟩
end
section
variable {P : Program} {s : Sl} {w w' w0 : World} {H H' : Hp} {F G : List Ob} {d : Option Tmp} {ty : TypeId} {pos : String} {af : Array Edge} {gd : Option (Nat × Bool)} {x y z : Operand} {T T' : TypeId} {e : TypeId} {v : Value} {xs : List Int}
theorem St.qi (HS : St w0 H w (.ow (.sl e IntT) xs [v] :: F)) : St w0 H w (.pr (QI e v xs) :: F) := by
  obtain ⟨S1, S2, i1, i2, ap, ho, r⟩ := HS.own
  exact HS.with_own ⟨S1, S2, i1, i2, ap, (QI.of ho).pr, r⟩
theorem St.qiRd (HS : St w0 H w F) (k : Nat) (hk : F[k]? = some (.pr (QI e v xs))) : Rd (.sl e IntT) (hp w) xs [v] := by
  obtain ⟨S, _, _, _, _, ho, _⟩ := HS.own.front k hk
  exact (QI.prd ho).rd
/-- The first element is cut off. -/
theorem o_cut {q : Int} (HS : St w0 H w (.pr (QI e v (q :: xs)) :: F)) (hT : slB P T e 1 = true) (hx : ev s x = v) :
    ∃ v', (execOp (ev s) ⟨d, .slice T x (some (.const (iv 1))) none none, ty, pos, af, gd⟩).run P w = .ok (.value v') w ∧ St w0 H w (.pr (QI e v' xs) :: F) := by
  obtain ⟨S1, S2, i1, i2, ap, ho, r⟩ := HS.own
  obtain ⟨ti, hti, hts, hun⟩ := sl_und hT
  have hel : P.underlying T = some (.slice (P.elem T)) := by rw [hun]; simp [Program.elem, hun]
  have hel' : P.elem T = e := by rw [hun] at hel; simpa using hel.symm
  rcases QI.prd ho with ⟨A, _, hh⟩ | ⟨g, o, c, ps, rs, rfl, k2, k3, k4, k5, k6, k7⟩
  · cases hh
  have hs := run_slice_l (P := P) w T (some ⟨g, o, none⟩) (q :: xs).length c hel .i64 1 (by omega) (by simp; omega)
  have hr : (execOp (ev s) ⟨d, .slice T x (some (.const (iv 1))) none none, ty, pos, af, gd⟩).run P w = .ok (.value (sliced (some ⟨g, o, none⟩) 1 (q :: xs).length c 1)) w := by
    have h1 := run_sliceAt_slice (P := P) w T (.slice (some ⟨g, o, none⟩) (q :: xs).length c) (some (iv 1)) none none hel
    rw [hs, hel', run_sizeOf hti, hts] at h1
    simp only [Result.andThen_ok] at h1
    have e : (execOp (ev s) ⟨d, .slice T x (some (.const (iv 1))) none none, ty, pos, af, gd⟩).run P w = ((Instr.sliceAt T (ev s x) (some (iv 1)) none none).run P w).andThen fun v w => .ok (.value v) w := by
      simp only [execOp, Option.map_some, Option.map_none, Go.Proofs.Ytpfibofoeblapaa.ev, Sem.run_bind, Sem.run_pure]
    rw [e, hx, h1]
    rfl
  refine ⟨_, hr, HS.with_own ⟨S1, S2, i1, i2, ap, QI.pr ?_, r⟩⟩
  unfold sliced
  by_cases hc : c = 1
  · subst hc
    have : xs = [] := by
      have : xs.length = 0 := by simp at k5; omega
      exact List.eq_nil_of_length_eq_zero this
    subst this
    exact .inl ⟨some ⟨g, o, none⟩, by simp, rfl⟩
  · refine .inr ⟨g, o + 1, c - 1, ps ++ [iv q], rs, ?_, k2, by simpa using k3, by simp [k4], by simp at k5; omega, by omega, by simp at k7; omega⟩
    rw [if_neg hc]
    simp [add_lit']
theorem o_cutq (HS : St w0 H w (.pr (QI e v xs) :: F)) (h : (0 : Int) < (xs.length : Int)) (hT : slB P T e 1 = true) (hx : ev s x = v) :
    OpR P ⟨d, .slice T x (some (.const (iv 1))) none none, ty, pos, af, gd⟩ s w fun v' w' => w' = w ∧ St w0 H w (.pr (QI e v' xs.tail) :: F) := by
  cases xs with
  | nil => simp at h
  | cons q xs =>
    obtain ⟨v', hr, hs⟩ := o_cut (P := P) (d := d) (ty := ty) (pos := pos) (af := af) (gd := gd) HS hT hx
    unfold OpR
    rw [hr]
    exact ⟨rfl, hs⟩
/-- One more at the end. -/
theorem o_appq {q : Int} {g2 : Nat} (HS : St w0 H w (.pr (QI e v xs) :: .bx g2 e [iv q] :: F)) (hx : ev s x = v) (hy : ev s y = .slice (some ⟨g2, 0, none⟩) 1 1) (hT : slB P T e 1 = true) (hA : apB P e 1) (hl : xs.length < lim) :
    OpR P ⟨d, .call ⟨.builtin .append, #[x, y], #[T, T]⟩, ty, pos, af, gd⟩ s w fun v' w' => St w0 H w' (.pr (QI e v' (xs ++ [q])) :: F) ∧ Kp (fun b => H b = none) w w' := by
  obtain ⟨S1, S2, i1, i2, ap, ho, T1, T2, j1, j2, ap', hbx, r⟩ := HS.own
  obtain ⟨i, z, hi, hz, hsz, hzs, hn, hby⟩ := apB_out hA
  obtain ⟨_, _, _, hun⟩ := sl_und hT
  have hnews : ∀ j u, [iv q][j]? = some u → w.cell? ((⟨g2, 0, none⟩ : Addr).add j) = some u := cs_block1 (HS.box 1 rfl)
  have hlim : xs.length < 4294967296 := hl
  unfold OpR
  rw [run_app_op hx hy]
  -- what a new row comes to
  have grown : ∀ v' w', w'.ownsRow w.heap.size e 1 v' (xs.length + 1) (xs.map iv ++ [iv q]) → w.grownBy w' none → St w0 H w' (.pr (QI e v' (xs ++ [q])) :: F) ∧ Kp (fun b => H b = none) w w' := by
    intro v' w' hrow hgr
    have hb : Below w.heap.size w w' := ⟨hgr.os, hgr.tape, hgr.output, hgr.size, fun k hk => hgr.block k hk (by simp)⟩
    have HS' : St w0 H w F := HS.sel [] 2 rfl
    refine ⟨?_, Kp.of_below hb⟩
    rcases hrow.2 with ⟨_, h0⟩ | ⟨g', c', cur, rfl, hge, hbk, hc1, hc2, hc3, hc4⟩
    · omega
    have hlt : g' < w'.heap.size := (Array.getElem?_eq_some_iff.1 hbk).1
    refine HS'.new hb (S := fun b => b = g') (fun b hb => by subst hb; exact ⟨hge, hlt⟩) (QI.pr (.inr ⟨g', 0, c', [], cur.toList.drop (xs.length + 1), by simp, rfl, ?_, rfl, ?_, hc2, by simp; unfold big; omega⟩))
    · have e1 : xs.map iv ++ [iv q] = cur.toList.take (xs.length + 1) := by rw [← hc4]; simp
      have : cur.toList = (xs.map iv ++ [iv q]) ++ cur.toList.drop (xs.length + 1) := by rw [e1, List.take_append_drop]
      show w'.heap[g']? = _
      rw [hbk]
      congr 2
      apply Array.ext'
      simpa using this
    · have : cur.toList.length = c' := by simpa using hc3
      simp [this]; omega
  rcases QI.prd ho with ⟨A, rfl, rfl⟩ | ⟨g, o, c, ps, rs, rfl, k2, k3, k4, k5, k6, k7⟩
  · cases A with
    | none =>
      obtain ⟨v', w', hr, k2, k3, _⟩ := run_append_own w w.heap.size T ty e i z 1 i.bytes hun hi hz hsz rfl hzs (by omega) (.slice none 0 0) 0 [] (World.ownsRow_nil w _ e 1) ⟨g2, 0, none⟩ 1 1 [iv q] rfl hnews (by simp [Value.oneCell']) (by simp [maxLen]) (by omega) (Nat.le_refl _)
      rw [hr]
      exact grown v' w' k2 k3
    | some b =>
      obtain ⟨v', w', hr, k2, k3⟩ := run_append_arg_grows w T ty e i z 1 i.bytes hun hi hz hsz rfl hzs (by omega) b 0 0 [] rfl (by simp) ⟨g2, 0, none⟩ 1 1 [iv q] rfl hnews (by omega) (by simp [maxLen]) (by omega)
      rw [hr]
      exact grown v' w' k2 k3
  · by_cases hroom : xs.length + 1 ≤ c
    · obtain ⟨r0, rs, rfl⟩ : ∃ r0 rs', rs = r0 :: rs' := by
        cases rs with
        | nil => simp at k5; omega
        | cons a b => exact ⟨a, b, rfl⟩
      have hcell : w.cell? ⟨g, o + xs.length, none⟩ = some r0 := by
        have k3' : w.heap[g]? = _ := k3
        simp [World.cell?, k3', ← k4]
      have hfz : w.frozen? ⟨g, o + xs.length, none⟩ = false := by
        have k3' : w.heap[g]? = _ := k3
        simp [World.frozen?, k3']
      have hrun := run_append_room_cells (P := P) w T ty e i hun hi g o xs.length c ⟨g2, 0, none⟩ 1 1 [iv q] (by simp [hsz]) hnews (by simp [Value.oneCell']) hroom (by simp [hsz, hcell]) (by simp [hsz, hfz])
      rw [hrun]
      have hset : w.setCells g (o + xs.length * i.size) [iv q] = setB w g (.cells (ps ++ ((xs ++ [q]).map iv ++ rs)).toArray e (0, 0)) := by
        simp only [World.setCells, hsz, Nat.mul_one]
        rw [setCell_setB k3]
        congr 2
        apply Array.ext'
        simp only [Array.toList_setIfInBounds]
        rw [List.set_append_right _ _ (by omega), List.set_append_right _ _ (by simp; omega)]
        simp [k4]
      rw [hset]
      have hgn : H g = none := (i1 g k2).1
      have hgl : g < w.heap.size := (i1 g k2).2
      have hot : ∀ b, b ≠ g → hp (setB w g (.cells (ps ++ ((xs ++ [q]).map iv ++ rs)).toArray e (0, 0))) b = hp w b := fun b hb => setB_ne _ hb
      refine ⟨⟨HS.os, HS.tape, HS.out, by simpa [setB] using HS.size, fun b o eb => ?_, S1, T2, fun b hb => by simpa [setB] using i1 b hb, fun b hb => by simpa [setB] using i2 b (j2 b hb), fun b h1 h2 => ap b h1 (j2 b h2), QI.pr (.inr ⟨g, o, c, ps, rs, by simp, k2, setB_at _ hgl, k4, by simp at k5 ⊢; omega, k6, by simp; unfold big; omega⟩), r.loc (fun b hb => hot b fun e => ap g k2 (e ▸ j2 b hb)) fun _ h => h⟩, ⟨by simp [setB], fun k hk hn => setB_ne _ fun e => hn (e ▸ hgn)⟩⟩
      have : b ≠ g := fun e => by rw [e, hgn] at eb; cases eb
      exact (hot b this).trans (HS.sub _ _ eb)
    · have hcs : ∀ j u, (xs.map iv)[j]? = some u → w.cell? ((⟨g, o, none⟩ : Addr).add j) = some u := QI.cells k3 k4
      obtain ⟨v', w', hr, k2, k3⟩ := run_append_arg_grows w T ty e i z 1 i.bytes hun hi hz hsz rfl hzs (by omega) ⟨g, o, none⟩ xs.length c (xs.map iv) (by simp) hcs ⟨g2, 0, none⟩ 1 1 [iv q] rfl hnews (by omega) (by simp only [maxLen]; omega) (by
        have := Nat.mul_le_mul (show xs.length + 1 ≤ 4294967296 by omega) hby
        omega)
      rw [hr]
      exact grown v' w' k2 k3
end
end Go.Proofs.Ytpfibofoeblapaa
