/- Slices that are made, grown and written. -/
import Derived.Test.YtpfibofoeblapaaOp
set_option linter.unusedVariables false
set_option linter.unusedSimpArgs false
namespace Go.Proofs.Ytpfibofoeblapaa
open Go Go.RowKit

/-- How long a slice may become by append. -/
def lim : Nat := 4294967296
/-- What append has to know of a type: its bytes and its zero value. -/
def apB (P : Program) (e : TypeId) (n : Nat) : Prop := ∃ i z, P.info? e = some i ∧ i.size = n ∧ 0 < i.bytes ∧ i.bytes ≤ 1024 ∧ i.zero = some z ∧ z.cells.size = n ∧ 0 < n
section
variable {P : Program} {s : Sl} {w : World} {d : Option Tmp} {ty : TypeId} {pos : String} {af : Array Edge} {gd : Option (Nat × Bool)} {x y z : Operand} {T T' : TypeId} {a b : Int} {p q : Bool}
theorem one_plain {v : Value} (h : plainV v = true) : v.oneCell' = true := by cases v <;> first | rfl | simp [plainV] at h
theorem apB_out {e : TypeId} {n : Nat} (h : apB P e n) : ∃ i z, P.info? e = some i ∧ i.zero = some z ∧ i.size = n ∧ z.cells.size = n ∧ 0 < n ∧ i.bytes ≤ 1024 := by
  obtain ⟨i, z, h1, h2, _, h3, h4, h5, h6⟩ := h
  exact ⟨i, z, h1, h4, h2, h5, h6, h3⟩
/-- A row of the call's own, in the library's words. -/
theorem own_row {H : Hp} {e : TypeId} {t : Ty} {xs : List t.den} {v : Value} {S : Bs} (hw : H = hp w) (h : Own (.sl e t) H xs [v] S) :
    ∃ ds S', w.ownsRow 0 e t.sz v xs.length ds ∧ OwnC (Own t H) xs ds S' ∧ In S' S ∧ (∀ g, v.ownBlock = some g → S g ∧ ¬ S' g) := by
  subst hw
  rcases h with ⟨e1, rfl⟩ | ⟨g, c, ds, rs, S', e1, hg, hn, hS, hb, h1, h2, ⟨h3, h3'⟩, h4⟩
  · obtain rfl : v = .slice none 0 0 := by simpa using e1
    exact ⟨[], fun _ => False, ⟨by simp, .inl ⟨rfl, rfl⟩⟩, rfl, fun _ h => h.elim, fun g hg => by simp [Value.ownBlock] at hg⟩
  · obtain rfl : v = .slice (some ⟨g, 0, none⟩) xs.length c := by simpa using e1
    refine ⟨ds, S', ⟨h4.len, .inr ⟨g, c, (ds ++ rs).toArray, rfl, Nat.zero_le _, hb, h2, h3, by simpa using h1, ?_⟩⟩, h4, hS, ?_⟩
    · rw [← h4.len]; simp
    · intro g' hg'
      obtain rfl : g = g' := by simpa [Value.ownBlock] using hg'
      exact ⟨hg, hn⟩
theorem row_own {H : Hp} {e : TypeId} {t : Ty} {xs : List t.den} {v : Value} {ds : List Value} {S S' : Bs} (hw : H = hp w) (h : w.ownsRow 0 e t.sz v xs.length ds) (hc : OwnC (Own t H) xs ds S') (hl : xs.length ≤ big)
    (hS : In S' S) (hg : ∀ g, v.ownBlock = some g → S g ∧ ¬ S' g) : Own (.sl e t) H xs [v] S := by
  subst hw
  obtain ⟨h1, h2⟩ := h
  rcases h2 with ⟨rfl, h0⟩ | ⟨g, c, cur, rfl, _, hb, k1, k2, k3, k4⟩
  · exact .inl ⟨rfl, List.eq_nil_of_length_eq_zero h0⟩
  · obtain ⟨a, b⟩ := hg g rfl
    refine .inr ⟨g, c, ds, cur.toList.drop (xs.length * t.sz), S', rfl, a, b, hS, ?_, ?_, k1, ⟨k2, hl⟩, hc⟩
    · rw [← k4, List.take_append_drop]; simpa [hp] using hb
    · rw [← k4, List.take_append_drop]; simpa using k3
/-- Where the row lies behind an append. -/
theorem run_append_own' (t ty e : TypeId) (i : TypeInfo) (z : Value) (size : Nat) (ht : P.underlying t = some (.slice e)) (hi : P.info? e = some i) (hz : i.zero = some z)
    (hsize : i.size = size) (hzs : z.cells.size = size) (hsz : 0 < size)
    (v : Value) (n : Nat) (xs : List Value) (hown : w.ownsRow 0 e size v n xs)
    (a : Addr) (m c : Nat) (news : List Value) (hl : news.length = m * size) (hnews : ∀ j u, news[j]? = some u → w.cell? (a.add j) = some u) (h1 : ∀ u ∈ news, u.oneCell' = true)
    (h63 : n + m ≤ maxLen) (hbytes : (n + m) * i.bytes ≤ 140737488355328) :
    ∃ v' w', (Builtin.append_ #[t, t] ty #[v, .slice (some a) m c]).run P w = .ok v' w' ∧ w'.ownsRow 0 e size v' (n + m) (xs ++ news) ∧ w.grownBy w' v.ownBlock ∧
      (∀ g, v'.ownBlock = some g → v.ownBlock = some g ∨ w.heap.size ≤ g) := by
  obtain ⟨v', w', hr, h2, h3, h4⟩ := run_append_own w 0 t ty e i z size i.bytes ht hi hz hsize rfl hzs hsz v n xs hown a m c news hl hnews h1 h63 hbytes (Nat.zero_le _)
  refine ⟨v', w', hr, h2, h3, ?_⟩
  subst hsize
  have hsmall : n + m ≤ 9223372036854775807 := by simp only [maxLen] at h63; omega
  rcases hown.2 with ⟨rfl, rfl⟩ | ⟨g, cap, cur, rfl, hbg, hg, hnc, hcm, hcs, htake⟩
  · have hown' : w.ownsRow w.heap.size e i.size (.slice none 0 0) 0 xs := ⟨hown.1, .inl ⟨rfl, rfl⟩⟩
    obtain ⟨v2, w2, hr2, k2, _, _⟩ := run_append_own w w.heap.size t ty e i z i.size i.bytes ht hi hz rfl rfl hzs hsz (.slice none 0 0) 0 xs hown' a m c news hl hnews h1 h63 hbytes (Nat.le_refl _)
    rw [hr] at hr2
    obtain ⟨rfl, rfl⟩ : v' = v2 ∧ w' = w2 := by injection hr2 with a b; exact ⟨a, b⟩
    intro g hg
    rcases k2.2 with ⟨rfl, _⟩ | ⟨g', _, _, rfl, hb, _⟩
    · simp [Value.ownBlock] at hg
    · obtain rfl : g' = g := by simpa [Value.ownBlock] using hg
      exact .inr hb
  · by_cases hroom : n + m ≤ cap
    · have hfit : n * i.size + news.length ≤ cur.size := by rw [hl, hcs, ← Nat.add_mul]; exact Nat.mul_le_mul_right _ hroom
      have hr2 := run_append_room (P := P) w t ty e i ht hi g n cap cur hg a m c news hl hnews h1 hroom hfit
      rw [hr] at hr2
      injection hr2 with h5 h6
      subst h5
      exact fun g' hg' => .inl hg'
    · have holds : ∀ j u, xs[j]? = some u → w.cell? ((⟨g, 0, none⟩ : Addr).add j) = some u := hown.cells (g := g) rfl
      have hr2 := run_append_grow (P := P) w t ty e i z ht hi hz ⟨g, 0, none⟩ n cap xs hown.1 holds a m c news hl hnews (by omega) (by omega) (growslice_fits (by omega) hbytes)
      rw [hr] at hr2
      injection hr2 with h5 h6
      subst h5
      intro g' hg'
      obtain rfl : w.heap.size = g' := by simpa [Value.ownBlock] using hg'
      exact .inr (Nat.le_refl _)
/-- append of elements that are owned. -/
theorem St.append {w0 : World} {H : Hp} {F : List Ob} {e : TypeId} {t : Ty} {xs ys : List t.den} {v u : Value} {ds : List Value} (HS : St w0 H w (.ow (.sl e t) xs [v] :: F)) (G : List Ob) (hG : ∀ S, Owns (hp w) F S → ∃ S1 S2, In S1 S ∧ In S2 S ∧ Apart S1 S2 ∧ OwnC (Own t (hp w)) ys ds S1 ∧ Owns (hp w) G S2)
    (hu : ∃ b c, u = .slice (some b) ys.length c ∧ CsH (hp w) b ds) (hT : slB P T e t.sz = true) (hA : apB P e t.sz) (hl : xs.length + ys.length ≤ lim) :
    ∃ v' w', (Builtin.append_ #[T, T] ty #[v, u]).run P w = .ok v' w' ∧ St w0 H w' (.ow (.sl e t) (xs ++ ys) [v'] :: G) ∧ (∀ M : Nat → Prop, (∀ g, v.ownBlock = some g → M g) → Kp M w w') := by
  obtain ⟨b, c, rfl, hcs⟩ := hu
  obtain ⟨S1, S2, i1, i2, ap, ho, r⟩ := HS.own
  obtain ⟨E1, E2, j1, j2, ape, hoc, hr⟩ := hG _ r
  obtain ⟨ds0, S', hrow, hc0, hS', hgb⟩ := own_row rfl ho
  obtain ⟨i, z, hi, hz, hsz, hzs, hn, hby⟩ := apB_out hA
  obtain ⟨_, _, _, hun⟩ := sl_und hT
  have hlen : ds.length = ys.length * t.sz := hoc.len
  have hpl : ∀ u ∈ ds, u.oneCell' = true := by
    have : ∀ {ys : List t.den} {ds : List Value} {S : Bs}, OwnC (Own t (hp w)) ys ds S → ∀ u ∈ ds, plainV u = true := by
      intro ys
      induction ys with
      | nil => intro ds S k; rw [show ds = [] from k]; simp
      | cons y ys ih =>
        rintro ds S ⟨c1, c2, T1, T2, rfl, _, _, _, k1, k2⟩ u hu
        rcases List.mem_append.1 hu with h | h
        · exact k1.plain u h
        · exact ih k2 u h
    exact fun u hu => one_plain (this hoc u hu)
  have hlim : xs.length + ys.length ≤ 4294967296 := hl
  obtain ⟨v', w', hrun, hrow', hgr, hplace⟩ := run_append_own' (w := w) T ty e i z t.sz hun hi hz hsz hzs hn v xs.length ds0 hrow b ys.length c ds hlen hcs hpl
    (by simp only [maxLen]; omega) (by
      have := Nat.mul_le_mul hlim hby
      omega)
  have hblk : ∀ k, k < w.heap.size → some k ≠ v.ownBlock → w'.heap[k]? = w.heap[k]? := hgr.block
  refine ⟨v', w', hrun, ?_, fun M hM => ⟨hgr.size, fun k hk hm => hblk k hk fun e => hm (hM k e.symm)⟩⟩
  -- the blocks: the row's own, the elements'
  have hin1 : ∀ k, S' k → w'.heap[k]? = w.heap[k]? := fun k hk => hblk k (i1 k (hS' k hk)).2 fun e => (hgb k e.symm).2 hk
  have hin2 : ∀ k, S2 k → w'.heap[k]? = w.heap[k]? := fun k hk => hblk k (i2 k hk).2 fun e => ap k (hgb k e.symm).1 hk
  have hc0' : OwnC (Own t (hp w')) xs ds0 S' := hc0.imp (fun _ _ T hT k => k.loc (fun b hb => hin1 b (hT b hb)) fun _ h => h) fun _ h => h
  have hoc' : OwnC (Own t (hp w')) ys ds E1 := hoc.imp (fun _ _ T hT k => k.loc (fun b hb => hin2 b (j1 b (hT b hb))) fun _ h => h) fun _ h => h
  have hrow'' : w'.ownsRow 0 e t.sz v' (xs ++ ys).length (ds0 ++ ds) := by rw [List.length_append]; exact hrow'
  -- the new row's block is the old one or a new one
  have hnew : ∀ g, v'.ownBlock = some g → (v.ownBlock = some g ∨ w.heap.size ≤ g) ∧ g < w'.heap.size := by
    intro g hg
    refine ⟨hplace g hg, ?_⟩
    rcases hrow'.2 with ⟨rfl, _⟩ | ⟨g', _, _, rfl, _, hb, _⟩
    · simp [Value.ownBlock] at hg
    · obtain rfl : g' = g := by simpa [Value.ownBlock] using hg
      exact hp_lt (w := w') hb
  refine ⟨hgr.os.trans HS.os, hgr.tape.trans HS.tape, hgr.output.trans HS.out, Nat.le_trans HS.size hgr.size, fun k o e => ?_, ?_⟩
  · have hlt := hp_lt (HS.sub _ _ e)
    exact (hblk k hlt fun e' => by rw [(i1 k (hgb k e'.symm).1).1] at e; cases e).trans (HS.sub _ _ e)
  · refine ⟨fun k => S1 k ∨ E1 k ∨ (w.heap.size ≤ k ∧ k < w'.heap.size), E2, ?_, fun k hk => ⟨(i2 k (j2 k hk)).1, Nat.lt_of_lt_of_le (i2 k (j2 k hk)).2 hgr.size⟩, ?_, ?_, hr.loc (fun k hk => hin2 k (j2 k hk)) fun _ h => h⟩
    · rintro k (hk | hk | hk)
      · exact ⟨(i1 k hk).1, Nat.lt_of_lt_of_le (i1 k hk).2 hgr.size⟩
      · exact ⟨(i2 k (j1 k hk)).1, Nat.lt_of_lt_of_le (i2 k (j1 k hk)).2 hgr.size⟩
      · exact ⟨HS.fresh_none hk.1, hk.2⟩
    · rintro k (hk | hk | hk) h2
      · exact ap k hk (j2 k h2)
      · exact ape k hk h2
      · have := (i2 k (j2 k h2)).2; omega
    · refine row_own rfl hrow'' (S' := fun k => S' k ∨ E1 k) ?_ ?_ ?_ ?_
      · exact hc0'.app (fun _ _ T T' hT k => k.loc (fun _ _ => rfl) hT) hoc' (fun k h1 h2 => ap k (hS' k h1) (j1 k h2)) (fun k h => .inl h) (fun k h => .inr h)
      · rw [List.length_append]; unfold big; omega
      · rintro k (hk | hk)
        · exact .inl (hS' k hk)
        · exact .inr (.inl hk)
      · intro g hg
        obtain ⟨h1, h2⟩ := hnew g hg
        rcases h1 with h1 | h1
        · refine ⟨.inl (hgb g h1).1, ?_⟩
          rintro (hk | hk)
          · exact (hgb g h1).2 hk
          · exact ap g (hgb g h1).1 (j1 g hk)
        · refine ⟨.inr (.inr ⟨h1, h2⟩), ?_⟩
          rintro (hk | hk)
          · have := (i1 g (hS' g hk)).2; omega
          · have := (i2 g (j1 g hk)).2; omega
/-! ### operations -/
theorem cs_block1 {g : Nat} {cs : List Value} {e : TypeId} (h : hp w g = some (.cells cs.toArray e (0, 0))) : CsH (hp w) ⟨g, 0, none⟩ cs := csH_block (rs := []) (e := e) (f := (0, 0)) (by simpa using h)
theorem run_app_op {v u : Value} (hx : ev s x = v) (hy : ev s y = u) : (execOp (ev s) ⟨d, .call ⟨.builtin .append, #[x, y], #[T, T']⟩, ty, pos, af, gd⟩).run P w = ((Builtin.append_ #[T, T'] ty #[v, u]).run P w).andThen fun a w' => .ok (.value a) w' := by
  simp only [execOp, resolve, Sem.run_bind, Sem.run_pure, Result.andThen_ok, invoke, builtin, List.map_toArray, List.map_cons, List.map_nil, hx, hy]
/-- One element that is owned, out of a literal. -/
theorem o_app1 {w0 : World} {H : Hp} {F : List Ob} {e : TypeId} {t : Ty} {xs : List t.den} {x' : t.den} {v : Value} {ds : List Value} {g : Nat} (HS : St w0 H w (.ow (.sl e t) xs [v] :: .ow t x' ds :: .bx g e ds :: F))
    (hx : ev s x = v) (hy : ev s y = .slice (some ⟨g, 0, none⟩) 1 1) (hT : slB P T e t.sz = true) (hA : apB P e t.sz) (hl : xs.length < lim) :
    OpR P ⟨d, .call ⟨.builtin .append, #[x, y], #[T, T]⟩, ty, pos, af, gd⟩ s w fun v' w' => St w0 H w' (.ow (.sl e t) (xs ++ [x']) [v'] :: F) ∧ (∀ M : Nat → Prop, (∀ g, v.ownBlock = some g → M g) → Kp M w w') := by
  obtain ⟨v', w', hr, h1, h2⟩ := HS.append (P := P) (T := T) (ty := ty) (ys := [x']) (u := .slice (some ⟨g, 0, none⟩) 1 1) (ds := ds) F (by
    rintro S ⟨S1, S2, i1, i2, ap, k, T1, T2, j1, j2, ap', k', r⟩
    exact ⟨S1, T2, i1, fun b hb => i2 b (j2 b hb), fun b h1 h2 => ap b h1 (j2 b h2), ⟨ds, [], S1, fun _ => False, by simp, fun _ h => h, fun _ h => h.elim, fun _ _ h => h, k, rfl⟩, r⟩) ⟨_, 1, rfl, cs_block1 (HS.box 2 rfl)⟩ hT hA hl
  unfold OpR
  rw [run_app_op hx hy, hr]
  exact ⟨h1, h2⟩
theorem own_flat {H : Hp} {t : Ty} (hf : flat t = true) {x : t.den} {cs : List Value} (S : Bs) (h : Rd t H x cs) (H' : Hp) : Own t H' x cs S := by
  cases t <;> first | exact h | cases hf
theorem ownC_flat {H : Hp} {t : Ty} (hf : flat t = true) (H' : Hp) : ∀ {xs : List t.den} {cs : List Value}, RdC (Rd t H) xs cs → OwnC (Own t H') xs cs (fun _ => False)
  | [], _, h => h
  | _ :: _, _, ⟨c1, c2, e, h1, h2⟩ => ⟨c1, c2, _, _, e, fun _ h => h, fun _ h => h, fun _ h => h.elim, own_flat hf _ h1 _, ownC_flat hf H' h2⟩
/-- One element of one cell, out of a literal. -/
theorem o_appf {w0 : World} {H : Hp} {F : List Ob} {e : TypeId} {t : Ty} {xs : List t.den} {x' : t.den} {v : Value} {ds : List Value} {g : Nat} (HS : St w0 H w (.ow (.sl e t) xs [v] :: .bx g e ds :: F)) (hf : flat t = true) (hr : Rd t H x' ds)
    (hx : ev s x = v) (hy : ev s y = .slice (some ⟨g, 0, none⟩) 1 1) (hT : slB P T e t.sz = true) (hA : apB P e t.sz) (hl : xs.length < lim) :
    OpR P ⟨d, .call ⟨.builtin .append, #[x, y], #[T, T]⟩, ty, pos, af, gd⟩ s w fun v' w' => St w0 H w' (.ow (.sl e t) (xs ++ [x']) [v'] :: F) ∧ (∀ M : Nat → Prop, (∀ g, v.ownBlock = some g → M g) → Kp M w w') :=
  o_app1 (x' := x') (g := g) (((HS.own1 fun S k => k.tail fun T r => (show Owns (hp w) (.ow t x' ds :: .bx g e ds :: F) T from ⟨fun _ => False, T, fun _ h => h.elim, fun _ h => h, fun _ h => h.elim, own_flat hf _ hr _, r⟩)))) hx hy hT hA hl
/-- Several elements of one cell each. -/
theorem o_appn {w0 : World} {H : Hp} {F : List Ob} {e e2 : TypeId} {t : Ty} {xs ys : List t.den} {v u : Value} (HS : St w0 H w (.ow (.sl e t) xs [v] :: F)) (hf : flat t = true) (hr : Rd (.sl e2 t) (hp w) ys [u])
    (hx : ev s x = v) (hy : ev s y = u) (hT : slB P T e t.sz = true) (hA : apB P e t.sz) (hl : xs.length + ys.length ≤ lim) :
    OpR P ⟨d, .call ⟨.builtin .append, #[x, y], #[T, T]⟩, ty, pos, af, gd⟩ s w fun v' w' => St w0 H w' (.ow (.sl e t) (xs ++ ys) [v'] :: F) ∧ (∀ M : Nat → Prop, (∀ g, v.ownBlock = some g → M g) → Kp M w w') := by
  unfold OpR
  rw [run_app_op hx hy]
  obtain ⟨A, c, eu, hc, hb, hh⟩ := hr
  obtain rfl : u = .slice A ys.length c := by simpa using eu
  by_cases h0 : ∃ b ds, A = some b ∧ RdC (Rd t (hp w)) ys ds ∧ CsH (hp w) b ds
  · obtain ⟨b, ds, rfl, h1, h2⟩ := h0
    obtain ⟨v', w', hr, k1, k2⟩ := HS.append (P := P) (T := T) (ty := ty) (ys := ys) (u := .slice (some b) ys.length c) (ds := ds) F (by
      intro S r
      exact ⟨fun _ => False, S, fun _ h => h.elim, fun _ h => h, fun _ h => h.elim, ownC_flat hf _ h1, r⟩) ⟨b, c, rfl, h2⟩ hT hA hl
    rw [hr]
    exact ⟨k1, k2⟩
  · obtain rfl : ys = [] := by
      rcases hh with h | ⟨a, ds, ea, h1, h2⟩
      · exact h
      · exact absurd ⟨a, ds, ea, h1, h2⟩ h0
    -- nothing is appended
    have hv : ∃ B n c', v = .slice B n c' ∧ n ≤ c' := by
      obtain ⟨S1, S2, _, _, _, ho, _⟩ := HS.own
      rcases ho with ⟨e1, _⟩ | ⟨g, c', _, _, _, e1, _, _, _, _, _, h2, _⟩
      · exact ⟨none, 0, 0, by simpa using e1, Nat.le_refl _⟩
      · exact ⟨_, _, _, by simpa using e1, h2⟩
    obtain ⟨B, n, c', rfl, hn⟩ := hv
    obtain ⟨i, hi, hsz, hun⟩ := sl_und hT
    have hrun : (Builtin.append_ #[T, T] ty #[.slice B n c', .slice A 0 c]).run P w = .ok (.slice B n c') w := by
      simp [Builtin.append_, underlying, go_sem, hun, sizeOf, typeInfo, hi, Builtin.lenOf, hn]
      cases A with
      | none => cases B <;> simp [Builtin.firstCells, storeCells, go_sem]
      | some a => cases B <;> simp [Builtin.firstCells, loadCells, loadCellsFrom, storeCells, go_sem]
    have hrun' : (Builtin.append_ #[T, T] ty #[.slice B n c', .slice A ([] : List t.den).length c]).run P w = .ok (.slice B n c') w := hrun
    rw [hrun']
    exact ⟨by simpa using HS, fun M _ => Kp.refl _ _⟩
/-! ### literals and make -/
theorem run_und {u : TypeDesc} (h : P.underlying T = some u) : (underlying T).run P w = .ok u w := by simp [underlying, go_sem, h]
theorem fold_set (vs : List Value) : ∀ (k off : Nat) (arr : Array Value) , off + k + vs.length ≤ arr.size → (vs.zipIdx k).foldl (fun cs (cj : Value × Nat) => cs.setIfInBounds (off + cj.2) cj.1) arr = (spl arr.toList (off + k) vs).toArray := by
  induction vs with
  | nil => intro k off arr _; simp [spl_nil]
  | cons v vs ih =>
    intro k off arr h
    simp only [List.zipIdx_cons, List.foldl_cons]
    rw [ih (k + 1) off _ (by simp at h ⊢; omega)]
    have hlt : off + k < arr.toList.length := by simp at h ⊢; omega
    rw [← spl_cons _ _ _ _ hlt]
    simp [Nat.add_assoc]
/-- A literal's elements, all of them, in order. -/
def seqV : Nat → List Value → List (Nat × Value)
  | _, [] => []
  | k, v :: vs => (k, v) :: seqV (k + 1) vs
theorem fill_all {size n : Nat} : ∀ (vs : List Value) (k : Nat) (arr : Array Value), (∀ v ∈ vs, v.cells.size = size) → (k + vs.length) * size ≤ arr.size →
    Instr.fill (fun i => some (i * size, size)) arr (seqV k vs) = some (spl arr.toList (k * size) (vs.flatMap vcs)).toArray
  | [], k, arr, _, _ => by simp [seqV, Instr.fill, spl_nil]
  | v :: vs, k, arr, hv, hl => by
    have h1 := hv v (by simp)
    have hle : k * size + size ≤ arr.size := by
      have : (k + 1) * size ≤ (k + (v :: vs).length) * size := Nat.mul_le_mul_right _ (by simp)
      rw [Nat.add_mul] at this; omega
    simp only [seqV, Instr.fill]
    rw [if_neg (by simp [h1]; omega)]
    have hf := fold_set (vcs v) 0 (k * size) arr (by simp [vcs, h1]; omega)
    rw [Nat.add_zero] at hf
    have hz : v.cells.zipIdx.foldl (fun cs (cj : Value × Nat) => cs.setIfInBounds (k * size + cj.2) cj.1) arr = (spl arr.toList (k * size) (vcs v)).toArray := by
      rw [← hf]
      unfold vcs
      rw [← Array.foldl_toList]
      simp
    have hsz : ((spl arr.toList (k * size) (vcs v)).toArray).size = arr.size := by
      simp [spl, vcs, h1]; omega
    refine (congrArg (fun q => Instr.fill _ q _) hz).trans ?_
    rw [fill_all (n := n) vs (k + 1) _ (fun u hu => hv u (by simp [hu])) (by rw [hsz]; simp at hl; rw [show k + 1 + vs.length = k + (vs.length + 1) from by omega]; exact hl)]
    congr 2
    simp only [List.flatMap_cons]
    have hvl : (vcs v).length = size := by simp [vcs, h1]
    unfold spl
    simp only [List.length_append, hvl, Nat.add_mul, Nat.one_mul]
    have e1 : (List.take (k * size) arr.toList ++ vcs v ++ List.drop (k * size + size) arr.toList).take (k * size + size) = List.take (k * size) arr.toList ++ vcs v := by
      rw [List.take_append_of_le_length (by simp [hvl]; omega)]
      rw [List.take_of_length_le (by simp [hvl]; omega)]
    rw [e1]
    have e2 : (List.take (k * size) arr.toList ++ vcs v ++ List.drop (k * size + size) arr.toList).drop (k * size + size + (List.flatMap vcs vs).length) = List.drop (k * size + (size + (List.flatMap vcs vs).length)) arr.toList := by
      rw [List.drop_append, List.drop_of_length_le (by simp [hvl]; omega)]
      simp [hvl]
      congr 1
      omega
    rw [e2]
    simp
theorem run_bsl {e : TypeId} {n len : Nat} {vs : List Value} {parts : Array (Nat × Value)} (hT : slB P T e n = true) (hA : apB P e n) (hp : parts.toList = seqV 0 vs) (hl : vs.length = len) (hv : ∀ v ∈ vs, v.cells.size = n) (hsm : len * n ≤ 16777216) :
    (Instr.buildSlice T len parts).run P w = .ok (.slice (some ⟨w.heap.size, 0, none⟩) len len) { w with heap := w.heap.push (.cells (vs.flatMap vcs).toArray e) } := by
  obtain ⟨i, z, hi, hz, hsz, hzs, hn, hby⟩ := apB_out hA
  obtain ⟨_, _, _, hun⟩ := sl_und hT
  have hzv : (zeroValue e).run P w = .ok z w := by simp [zeroValue, typeInfo, go_sem, hi, hz]
  have hfl : (vs.flatMap vcs).length = len * n := by
    subst hl
    clear hp hsm
    induction vs with
    | nil => simp
    | cons v vs ih => simp only [List.flatMap_cons, List.length_append, List.length_cons, Nat.add_mul]; rw [ih (fun u hu => hv u (by simp [hu]))]; have := hv v (by simp); simp [vcs, this]; omega
  have hfill : ∀ arr : Array Value, arr.size = len * n → Instr.fill (fun i => some (i * n, n)) arr parts.toList = some (vs.flatMap vcs).toArray := by
    intro arr ha
    rw [hp, fill_all (n := n) vs 0 arr hv (by rw [ha, hl]; simp)]
    congr 2
    have e : (vs.flatMap vcs).length = arr.toList.length := by rw [hfl]; simpa using ha.symm
    unfold spl
    rw [Nat.zero_mul, Nat.zero_add, e]
    simp
  unfold Instr.buildSlice
  simp only [Sem.run_bind, run_und hun, Result.andThen_ok, run_sizeOf hi, hsz]
  rw [if_neg (by omega)]
  have key : ∀ zz : Array Value, Instr.fill (fun i => some (i * n, n)) ((Array.range (len * n)).map fun x => zz[x % zz.size]!) parts.toList = some (vs.flatMap vcs).toArray := fun zz => hfill _ (by simp)
  by_cases h0 : len * n = 0
  · rw [if_pos h0]
    simp only [Sem.run_bind, Sem.run_pure, Result.andThen_ok, key]
    rfl
  · rw [if_neg h0]
    simp only [Sem.run_bind, Sem.run_pure, Result.andThen_ok, hzv, key]
    rfl
theorem o_bsl {w0 : World} {H : Hp} {F : List Ob} {e : TypeId} {n len : Nat} {vs : List Value} {parts : Array (Nat × Operand)} (HS : St w0 H w F) (hT : slB P T e n = true) (hA : apB P e n) (hp : parts.toList.map (fun p => (p.1, ev s p.2)) = seqV 0 vs) (hl : vs.length = len)
    (hv : ∀ v ∈ vs, v.cells.size = n) (hsm : len * n ≤ 16777216) :
    OpR P ⟨d, .buildSlice T len parts, ty, pos, af, gd⟩ s w fun v w' => ∃ g, v = .slice (some ⟨g, 0, none⟩) len len ∧ Below w.heap.size w w' ∧ St w0 H w' (.bx g e (vs.flatMap vcs) :: F) := by
  have hm : (parts.map fun (i, x) => (i, ev s x)).toList = seqV 0 vs := by rw [← hp]; simp
  have hrun := run_bsl (w := w) hT hA hm hl hv hsm
  have hr : (execOp (ev s) ⟨d, .buildSlice T len parts, ty, pos, af, gd⟩).run P w = .ok (.value (.slice (some ⟨w.heap.size, 0, none⟩) len len)) { w with heap := w.heap.push (.cells (vs.flatMap vcs).toArray e) } := by
    simp only [execOp, Sem.run_bind, Sem.run_pure, hrun, Result.andThen_ok]
  unfold OpR
  rw [hr]
  exact ⟨_, rfl, o_push HS⟩
/-- A literal of elements of one cell each is a row of the call's own. -/
theorem St.lit {w0 : World} {H : Hp} {F : List Ob} {e : TypeId} {t : Ty} {xs : List t.den} {g : Nat} {ds : List Value} (HS : St w0 H w (.bx g e ds :: F)) (hf : flat t = true) (hr : RdC (Rd t H) xs ds) (hl : xs.length ≤ lim) :
    St w0 H w (.ow (.sl e t) xs [.slice (some ⟨g, 0, none⟩) xs.length xs.length] :: F) := by
  refine HS.own1 fun S k => ?_
  obtain ⟨S1, S2, i1, i2, ap, ⟨k1, k2⟩, r⟩ := k
  have hlen : ds.length = xs.length * t.sz := hr.len
  have hl' : xs.length ≤ 4294967296 := hl
  refine ⟨S1, S2, i1, i2, ap, .inr ⟨g, xs.length, ds, [], fun _ => False, rfl, k1, fun h => h, fun _ h => h.elim, by simpa using k2, by simpa using hlen, Nat.le_refl _, ⟨by simp only [maxLen]; omega, by unfold big; omega⟩, ownC_flat hf _ hr⟩, r⟩
theorem rdC_int {H : Hp} {k : IntKind} : ∀ xs : List Int, RdC (Rd (.int k) H) xs (xs.map (Value.int k))
  | [] => rfl
  | x :: xs => ⟨[_], _, rfl, rfl, rdC_int xs⟩
theorem rdC_str {H : Hp} : ∀ xs : List ByteArray, RdC (Rd .str H) xs (xs.map Value.string)
  | [] => rfl
  | x :: xs => ⟨[_], _, rfl, rfl, rdC_str xs⟩
theorem St.lit0 {w0 : World} {H : Hp} {F : List Ob} {e : TypeId} {g : Nat} (t : Ty) (HS : St w0 H w (.bx g e [] :: F)) : St w0 H w (.ow (.sl e t) [] [.slice (some ⟨g, 0, none⟩) 0 0] :: F) := by
  refine HS.own1 fun S k => ?_
  obtain ⟨S1, S2, i1, i2, ap, ⟨k1, k2⟩, r⟩ := k
  exact ⟨S1, S2, i1, i2, ap, .inr ⟨g, 0, [], [], fun _ => False, rfl, k1, fun h => h, fun _ h => h.elim, by simpa using k2, by simp, Nat.le_refl _, ⟨by simp [maxLen], by simp⟩, rfl⟩, r⟩
/-- A nil slice is owned by whoever wants it. -/
theorem St.nil {w0 : World} {H : Hp} {F : List Ob} (e : TypeId) (t : Ty) (HS : St w0 H w F) : St w0 H w (.ow (.sl e t) [] [.slice none 0 0] :: F) :=
  HS.own1 fun S k => ⟨fun _ => False, S, fun _ h => h.elim, fun _ h => h, fun _ h => h.elim, .inl ⟨rfl, rfl⟩, k⟩
def zc : Ty → List Value
  | .int k => [.int k 0]
  | .bool => [.bool false]
  | .str => [.string ByteArray.empty]
  | .sl _ _ => [.slice none 0 0]
  | .prod a b => zc a ++ zc b
theorem own_dflt {H : Hp} : ∀ (t : Ty) (S : Bs), Own t H t.dflt (zc t) S
  | .int _, _ => rfl
  | .bool, _ => rfl
  | .str, _ => rfl
  | .sl _ _, _ => .inl ⟨rfl, rfl⟩
  | .prod a b, _ => ⟨zc a, zc b, fun _ => False, fun _ => False, rfl, fun _ h => h.elim, fun _ h => h.elim, fun _ h => h.elim, own_dflt a _, own_dflt b _⟩
theorem zc_len : ∀ t, (zc t).length = t.sz
  | .int _ => rfl
  | .bool => rfl
  | .str => rfl
  | .sl _ _ => rfl
  | .prod a b => by simp [zc, Ty.sz, zc_len a, zc_len b]
theorem sz_pos : ∀ t : Ty, 0 < t.sz
  | .int _ => Nat.one_pos
  | .bool => Nat.one_pos
  | .str => Nat.one_pos
  | .sl _ _ => Nat.one_pos
  | .prod a b => by have := sz_pos a; simp only [Ty.sz]; omega
theorem ownC_zero {H : Hp} {t : Ty} : ∀ (n : Nat) (ds : List Value) (S : Bs), ds.length = n * t.sz → (∀ j, j < n * t.sz → ds[j]? = (zc t)[j % t.sz]?) → OwnC (Own t H) (List.replicate n t.dflt) ds S
  | 0, ds, _, h, _ => by simp at h; exact h
  | n + 1, ds, S, h, hj => by
    have hp := sz_pos t
    rw [Nat.add_mul, Nat.one_mul] at h
    rw [List.replicate_succ]
    refine ⟨zc t, ds.drop t.sz, fun _ => False, S, ?_, fun _ h => h.elim, fun _ h => h, fun _ h => h.elim, own_dflt t _, ownC_zero n _ S (by simp; omega) fun j hjn => ?_⟩
    · have e : ds.take t.sz = zc t := by
        apply List.ext_getElem?
        intro j
        by_cases hlt : j < t.sz
        · rw [List.getElem?_take_of_lt hlt, hj j (by rw [Nat.add_mul]; omega), Nat.mod_eq_of_lt hlt]
        · rw [List.getElem?_eq_none (by simp; omega), List.getElem?_eq_none (by rw [zc_len]; omega)]
      rw [← e, List.take_append_drop]
    · rw [List.getElem?_drop, hj _ (by rw [Nat.add_mul]; omega), Nat.add_mod_left]
/-- make, all zero. -/
theorem o_mks {w0 : World} {H : Hp} {F : List Ob} {e : TypeId} {t : Ty} {n : Nat} (HS : St w0 H w F) (hx : ev s x = iv n) (hy : ev s y = iv n) (hT : slB P T e t.sz = true) (hA : ∃ i z, P.info? e = some i ∧ i.bytes ≤ 1024 ∧ i.zero = some z ∧ vcs z = zc t) (hl : n ≤ lim) :
    OpR P ⟨d, .makeSlice T x y, ty, pos, af, gd⟩ s w fun v w' => Below w.heap.size w w' ∧ St w0 H w' (.ow (.sl e t) (List.replicate n t.dflt) [v] :: F) := by
  obtain ⟨i, z, hi, hby, hz, hzc⟩ := hA
  obtain ⟨i', hi', hsz, hun⟩ := sl_und hT
  rw [hi] at hi'; obtain rfl := Option.some.inj hi'
  have hl' : n ≤ 4294967296 := hl
  have hb : (i.bytes : Int) * (n : Int) ≤ 281474976710656 := by
    have h1 : i.bytes * n ≤ 1024 * 4294967296 := Nat.mul_le_mul hby hl'
    have h2 : ((i.bytes * n : Nat) : Int) ≤ 281474976710656 := by omega
    rwa [Int.natCast_mul] at h2
  have hrun := run_make (P := P) w T e i z hun hi hz .i64 .i64 n n (by omega) (Int.le_refl _) hb (by omega)
  simp only [Int.toNat_natCast, hsz] at hrun
  have hr : (execOp (ev s) ⟨d, .makeSlice T x y, ty, pos, af, gd⟩).run P w = .ok (.value (.slice (some ⟨w.heap.size, 0, none⟩) n n)) (w.alloc (.cells (madeCells z.cells (n * t.sz)) e)) := by
    simp only [execOp, hx, hy, Sem.run_bind, Sem.run_pure, hrun, Result.andThen_ok]
  unfold OpR
  rw [hr]
  have hbl := below_push (w := w) (.cells (madeCells z.cells (n * t.sz)) e)
  refine ⟨hbl, HS.new hbl (S := fun b => b = w.heap.size) (fun b e => by subst e; simp) (.inr ⟨w.heap.size, n, (madeCells z.cells (n * t.sz)).toList, [], fun _ => False, by simp, rfl, fun h => h, fun _ h => h.elim, ?_, ?_, by simp, ⟨by simp only [maxLen]; omega, by simp; unfold big; omega⟩, ?_⟩)⟩
  · rw [List.append_nil]; exact push_at _
  · simp [size_madeCells]
  · refine ownC_zero n _ _ (by simp [size_madeCells]) fun j hj => ?_
    have hzl : z.cells.size = t.sz := by have := congrArg List.length hzc; rw [zc_len] at this; simpa [vcs] using this
    have hm : j % t.sz < z.cells.size := by rw [hzl]; exact Nat.mod_lt _ (sz_pos t)
    rw [← hzc]
    simp [madeCells, hj, vcs, hzl, Nat.mod_lt _ (sz_pos t)]
end
end Go.Proofs.Ytpfibofoeblapaa
