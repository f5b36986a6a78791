/- A row of nodes whose shape stands: where each of its inner rows lies is told. -/
import Derived.Test.YtpfibofoeblapaaOpen
set_option linter.unusedVariables false
set_option linter.unusedSimpArgs false
namespace Go.Proofs.Ytpfibofoeblapaa
open Go Go.RowKit

abbrev RowT (ei : TypeId) : Ty := .sl ei (.int .i64)
abbrev NodeT (ei : TypeId) : Ty := .prod (RowT ei) (.prod (RowT ei) (.prod (.int .i64) (.int .i64)))
abbrev Shp := Nat → Value × Value
def c4 (p : Value × Value) (x : NodeD) : List Value := [p.1, p.2, iv x.2.2.1, iv x.2.2.2]
def ncell : Shp → List NodeD → List Value
  | _, [] => []
  | sh, x :: xs => c4 (sh 0) x ++ ncell (fun i => sh (i + 1)) xs
theorem ncell_split : ∀ {xs : List NodeD} (sh : Shp) (i : Nat), i < xs.length → ∃ pre post, ncell sh xs = pre ++ (c4 (sh i) (xs.getD i dN) ++ post) ∧ pre.length = i * 4 ∧ ∀ x', ncell sh (xs.set i x') = pre ++ (c4 (sh i) x' ++ post)
  | [], _, i, h => absurd h (by simp)
  | x :: xs, sh, 0, _ => ⟨[], ncell (fun i => sh (i + 1)) xs, by simp [ncell], by simp, fun x' => by simp [ncell]⟩
  | x :: xs, sh, i + 1, h => by
    obtain ⟨pre, post, h1, h2, h3⟩ := ncell_split (fun i => sh (i + 1)) i (by simpa using h)
    exact ⟨c4 (sh 0) x ++ pre, post, by simp [ncell, h1], by simp [c4, h2]; omega, fun x' => by simp [ncell, h3]⟩
theorem own_node {ei : TypeId} {H : Hp} {x : NodeD} {cs : List Value} {S : Bs} (k : Own (NodeT ei) H x cs S) :
    ∃ p S1 S2, cs = c4 p x ∧ In S1 S ∧ In S2 S ∧ Apart S1 S2 ∧ Own (RowT ei) H x.1 [p.1] S1 ∧ Own (RowT ei) H x.2.1 [p.2] S2 := by
  obtain ⟨c1, c2, S1, S2, rfl, i1, i2, ap, k1, d1, d2, T1, T2, rfl, j1, j2, ap', k2, e1, e2, U1, U2, rfl, _, _, _, k3, k4⟩ := k
  obtain ⟨u1, rfl, -⟩ := (k1.rd (H' := H) fun _ _ => rfl).one
  obtain ⟨u2, rfl, -⟩ := (k2.rd (H' := H) fun _ _ => rfl).one
  obtain rfl : e1 = _ := k3
  obtain rfl : e2 = _ := k4
  exact ⟨(u1, u2), S1, T1, rfl, i1, fun b hb => i2 b (j1 b hb), fun b h1 h2 => ap b h1 (j1 b h2), k1, k2⟩
theorem node_own {ei : TypeId} {H : Hp} {x : NodeD} {p : Value × Value} {S S1 S2 : Bs} (i1 : In S1 S) (i2 : In S2 S) (ap : Apart S1 S2) (k1 : Own (RowT ei) H x.1 [p.1] S1) (k2 : Own (RowT ei) H x.2.1 [p.2] S2) : Own (NodeT ei) H x (c4 p x) S :=
  ⟨[p.1], [p.2, iv x.2.2.1, iv x.2.2.2], S1, S2, rfl, i1, i2, ap, k1, [p.2], [iv x.2.2.1, iv x.2.2.2], S2, fun _ => False, rfl, fun _ h => h, fun _ h => h.elim, fun _ _ h => h, k2, [iv x.2.2.1], [iv x.2.2.2], fun _ => False, fun _ => False, rfl, fun _ h => h.elim, fun _ h => h.elim, fun _ h => h.elim, rfl, rfl⟩
theorem ownC_ncell {ei : TypeId} {H : Hp} : ∀ {xs : List NodeD} {ds : List Value} {S : Bs}, OwnC (Own (NodeT ei) H) xs ds S → ∃ sh, ds = ncell sh xs
  | [], _, _, k => ⟨fun _ => (undef, undef), k⟩
  | x :: xs, _, S, ⟨c1, c2, S1, S2, e, _, _, _, k1, k2⟩ => by
    obtain ⟨sh, rfl⟩ := ownC_ncell k2
    obtain ⟨p, _, _, rfl, _⟩ := own_node k1
    exact ⟨fun i => match i with | 0 => p | i + 1 => sh i, by simpa [ncell] using e⟩
/-- The row. -/
def NS (e ei : TypeId) (n : Nat) (V : Value) (sh : Shp) (xs : List NodeD) (H : Hp) (S : Bs) : Prop :=
  xs.length = n ∧ ((V = .slice none 0 0 ∧ n = 0) ∨ ∃ g c rs S', V = .slice (some ⟨g, 0, none⟩) n c ∧ S g ∧ ¬ S' g ∧ In S' S ∧ H g = some (.cells (ncell sh xs ++ rs).toArray e (0, 0)) ∧
    (ncell sh xs ++ rs).length = c * 4 ∧ n ≤ c ∧ (c ≤ maxLen ∧ n ≤ big) ∧ OwnC (Own (NodeT ei) H) xs (ncell sh xs) S')
section
variable {e ei : TypeId} {n : Nat} {V : Value} {sh : Shp} {xs : List NodeD} {H : Hp} {S : Bs}
theorem NS.own (k : NS e ei n V sh xs H S) : Own (.sl e (NodeT ei)) H xs [V] S := by
  obtain ⟨rfl, ⟨rfl, h0⟩ | ⟨g, c, rs, S', rfl, h1, h2, h3, h4, h5, h6, h7, h8⟩⟩ := k
  · exact .inl ⟨rfl, List.eq_nil_of_length_eq_zero h0⟩
  · exact .inr ⟨g, c, _, rs, S', rfl, h1, h2, h3, h4, h5, h6, h7, h8⟩
theorem NS.of (k : Own (.sl e (NodeT ei)) H xs [V] S) : ∃ sh, NS e ei xs.length V sh xs H S := by
  rcases k with ⟨h, rfl⟩ | ⟨g, c, ds, rs, S', h, h1, h2, h3, h4, h5, h6, h7, h8⟩
  · exact ⟨fun _ => (undef, undef), rfl, .inl ⟨by simpa using h, rfl⟩⟩
  · obtain ⟨sh, rfl⟩ := ownC_ncell h8
    exact ⟨sh, rfl, .inr ⟨g, c, rs, S', by simpa using h, h1, h2, h3, h4, h5, h6, h7, h8⟩⟩
theorem NS.loc {H' : Hp} {S' : Bs} (h : ∀ b, S b → H' b = H b) (hS : In S S') (k : NS e ei n V sh xs H S) : NS e ei n V sh xs H' S' := by
  obtain ⟨h0, hh⟩ := k
  refine ⟨h0, hh.imp id ?_⟩
  rintro ⟨g, c, rs, T, rfl, h1, h2, h3, h4, h5, h6, h7, h8⟩
  exact ⟨g, c, rs, T, rfl, hS g h1, h2, fun b hb => hS b (h3 b hb), (h g h1).trans h4, h5, h6, h7, h8.loc (fun b hb => h b (h3 b hb)) fun _ hb => hb⟩
theorem NS.pr (k : NS e ei n V sh xs H S) : (Ob.pr (NS e ei n V sh xs)).A H S := fun _ _ h hS => k.loc h hS
theorem NS.prd (k : (Ob.pr (NS e ei n V sh xs)).A H S) : NS e ei n V sh xs H S := k H S (fun _ _ => rfl) fun _ h => h
/-- One node by itself. -/
theorem NS.opn (k : NS e ei n V sh xs H S) {i : Nat} (hi : i < n) : ∃ g pre post rs Si So, S g ∧ ¬ Si g ∧ ¬ So g ∧ In Si S ∧ In So S ∧ Apart Si So ∧ (∀ j, eaddr V j = .pointer (some ⟨g, j, none⟩)) ∧ H g = some (.cells (pre ++ (c4 (sh i) (xs.getD i dN) ++ post)).toArray e (0, 0)) ∧ pre.length = i * 4 ∧
    Own (NodeT ei) H (xs.getD i dN) (c4 (sh i) (xs.getD i dN)) Si ∧ post = rs ∧
    ∀ (H' : Hp) (x' : NodeD) (Si' U : Bs), (∀ b, So b → H' b = H b) → H' g = some (.cells (pre ++ (c4 (sh i) x' ++ post)).toArray e (0, 0)) → Own (NodeT ei) H' x' (c4 (sh i) x') Si' → ¬ Si' g → Apart Si' So → U g → In Si' U → In So U → NS e ei n V sh (xs.set i x') H' U := by
  obtain ⟨rfl, ⟨rfl, h0⟩ | ⟨g, c, rs, S', rfl, h1, h2, h3, h4, h5, h6, h7, h8⟩⟩ := k
  · omega
  obtain ⟨pre, post, e1, hl, hu⟩ := ncell_split sh i hi
  obtain ⟨pre2, ci, post2, Si, So, e2, hl2, hin, hon, apo, hoi, hcl⟩ := h8.opn i hi
  have hoi' : Own (NodeT ei) H (xs.getD i dN) ci Si := hoi
  have hcl4 : ci.length = 4 := hoi'.len
  have e3 : pre ++ (c4 (sh i) (xs.getD i dN) ++ post) = pre2 ++ (ci ++ post2) := e1.symm.trans e2
  obtain ⟨rfl, e4⟩ := List.append_inj e3 (hl.trans hl2.symm)
  obtain ⟨rfl, rfl⟩ := List.append_inj e4 (by rw [hcl4]; rfl)
  refine ⟨g, pre, post ++ rs, _, Si, So, h1, fun h => h2 (hin g h), fun h => h2 (hon g h), fun b hb => h3 b (hin b hb), fun b hb => h3 b (hon b hb), apo, fun j => ?_, ?_, hl, hoi, rfl, ?_⟩
  · show Value.pointer (some ((⟨g, 0, none⟩ : Addr).add j)) = _
    unfold Addr.add; split <;> simp_all
  · rw [e1] at h4; simpa using h4
  · intro H' x' Si' U hH hg ho hn ap hUg hU1 hU2
    refine ⟨by simp, .inr ⟨g, c, rs, fun b => Si' b ∨ So b, rfl, hUg, ?_, ?_, ?_, ?_, h6, h7, ?_⟩⟩
    · rintro (h | h)
      · exact hn h
      · exact h2 (hon g h)
    · rintro b (h | h)
      · exact hU1 b h
      · exact hU2 b h
    · rw [hu]; simpa using hg
    · rw [← h5, hu, e1]; simp [c4]
    · rw [hu]; exact hcl H' x' _ Si' _ hH ho ap (fun b h => .inl h) fun b h => .inr h
end
section
variable {P : Program} {s : Sl} {w w' w0 : World} {H H' : Hp} {F G : List Ob} {d : Option Tmp} {ty : TypeId} {pos : String} {af : Array Edge} {gd : Option (Nat × Bool)} {x y z : Operand} {T T' : TypeId} {e ei : TypeId} {n : Nat} {V : Value} {sh : Shp} {xs : List NodeD}
theorem St.nsOf (HS : St w0 H w (.ow (.sl e (NodeT ei)) xs [V] :: F)) : ∃ sh, St w0 H w (.pr (NS e ei xs.length V sh xs) :: F) := by
  obtain ⟨S1, S2, i1, i2, ap, ho, r⟩ := HS.own
  obtain ⟨sh, k⟩ := NS.of ho
  exact ⟨sh, HS.with_own ⟨S1, S2, i1, i2, ap, k.pr, r⟩⟩
theorem St.nsOwn (HS : St w0 H w (.pr (NS e ei n V sh xs) :: F)) : St w0 H w (.ow (.sl e (NodeT ei)) xs [V] :: F) := by
  obtain ⟨S1, S2, i1, i2, ap, ho, r⟩ := HS.own
  exact HS.with_own ⟨S1, S2, i1, i2, ap, (NS.prd ho).own, r⟩
theorem St.nsAny (HS : St w0 H w F) (k : Nat) (hk : F[k]? = some (.pr (NS e ei n V sh xs))) : ∃ S, NS e ei n V sh xs (hp w) S := by
  obtain ⟨S, _, _, _, _, ho, _⟩ := HS.own.front k hk
  exact ⟨S, NS.prd ho⟩
theorem St.nsRd (HS : St w0 H w F) (k : Nat) (hk : F[k]? = some (.pr (NS e ei n V sh xs))) : Rd (.sl e (NodeT ei)) (hp w) xs [V] := by
  obtain ⟨S, h⟩ := HS.nsAny k hk
  exact h.own.rd fun _ _ => rfl
theorem St.nsLen (HS : St w0 H w F) (k : Nat) (hk : F[k]? = some (.pr (NS e ei n V sh xs))) : xs.length = n := by
  obtain ⟨S, h⟩ := HS.nsAny k hk
  exact h.1
theorem St.nsBig (HS : St w0 H w F) (k : Nat) (hk : F[k]? = some (.pr (NS e ei n V sh xs))) : (n : Int) ≤ 281474976710656 := by
  have := (HS.nsRd k hk).big
  rwa [HS.nsLen k hk] at this
theorem St.nsAt (HS : St w0 H w F) (k : Nat) (hk : F[k]? = some (.pr (NS e ei n V sh xs))) {i : Nat} (hi : i < n) : AtH (hp w) (eaddr V (i * 4)) (c4 (sh i) (xs.getD i dN)) := by
  obtain ⟨S, h⟩ := HS.nsAny k hk
  obtain ⟨g, pre, post, rs, Si, So, _, _, _, _, _, _, hea, hH, hl, _⟩ := h.opn hi
  rw [hea]
  refine ⟨_, rfl, ?_⟩
  have hc := csH_block (H := hp w) (g := g) (ds := pre ++ (c4 (sh i) (xs.getD i dN) ++ post)) (rs := []) (e := e) (f := (0, 0)) (by simpa using hH)
  have := hc.drop.take (cs := c4 (sh i) (xs.getD i dN)) (ds := post)
  rw [hl] at this
  have e : (⟨g, 0, none⟩ : Addr).add (i * 4) = ⟨g, i * 4, none⟩ := by unfold Addr.add; split <;> simp_all
  rwa [e] at this
theorem St.nsR1 (HS : St w0 H w F) (k : Nat) (hk : F[k]? = some (.pr (NS e ei n V sh xs))) {i : Nat} (hi : i < n) : Rd (RowT ei) (hp w) (xs.getD i dN).1 [(sh i).1] := by
  obtain ⟨S, h⟩ := HS.nsAny k hk
  obtain ⟨g, pre, post, rs, Si, So, _, _, _, _, _, _, _, _, _, ho, _⟩ := h.opn hi
  obtain ⟨p, S1, S2, ep, _, _, _, k1, k2⟩ := own_node ho
  have : (sh i).1 = p.1 := by simp [c4] at ep; exact ep.1
  rw [this]; exact k1.rd fun _ _ => rfl
theorem St.nsR2 (HS : St w0 H w F) (k : Nat) (hk : F[k]? = some (.pr (NS e ei n V sh xs))) {i : Nat} (hi : i < n) : Rd (RowT ei) (hp w) (xs.getD i dN).2.1 [(sh i).2] := by
  obtain ⟨S, h⟩ := HS.nsAny k hk
  obtain ⟨g, pre, post, rs, Si, So, _, _, _, _, _, _, _, _, _, ho, _⟩ := h.opn hi
  obtain ⟨p, S1, S2, ep, _, _, _, k1, k2⟩ := own_node ho
  have : (sh i).2 = p.2 := by simp [c4] at ep; exact ep.2
  rw [this]; exact k2.rd fun _ _ => rfl
/-- An element's address, whatever is in it. -/
theorem r_ian {i : Int} {k : Nat} (HS : St w0 H w F) (hk : F[k]? = some (.pr (NS e ei n V sh xs))) (hT : slB P T e 4 = true) (h0 : 0 ≤ i) (h1 : i < (n : Int)) (hx : ev s x = V) (hi : ev s y = iv i) :
    (execOp (ev s) ⟨d, .indexAddr T x y, ty, pos, af, gd⟩).run P w' = .ok (.value (eaddr V (i.toNat * 4))) w' := by
  have hr := HS.nsRd k hk
  exact r_ia (t := NodeT ei) hr hT h0 (by rw [HS.nsLen k hk]; exact h1) hx hi
theorem r_lenn {k m : Nat} {e' : TypeId} (HS : St w0 H w F) (hk : F[k]? = some (.pr (NS e ei n V sh xs))) (hT : slB P T e' m = true) (hx : ev s x = V) :
    (execOp (ev s) ⟨d, .call ⟨.builtin .len, #[x], #[T]⟩, ty, pos, af, gd⟩).run P w' = .ok (.value (iv n)) w' := by
  have hr := HS.nsRd k hk
  have := r_len (P := P) (s := s) (w := w') (d := d) (ty := ty) (pos := pos) (af := af) (gd := gd) hr hT hx
  rwa [HS.nsLen k hk] at this
/-- A flat field of a node. -/
theorem o_nsf {i : Int} {off : Nat} {q : Int} {x' : NodeD} (HS : St w0 H w (.pr (NS e ei n V sh xs) :: F)) (h0 : 0 ≤ i) (h1 : i < (n : Int)) (hT : stB P T 1 = true) (ho : off = 2 ∧ x' = ((xs.getD i.toNat dN).1, (xs.getD i.toNat dN).2.1, q, (xs.getD i.toNat dN).2.2.2) ∨ off = 3 ∧ x' = ((xs.getD i.toNat dN).1, (xs.getD i.toNat dN).2.1, (xs.getD i.toNat dN).2.2.1, q))
    (hx : ev s x = padd (eaddr V (i.toNat * 4)) off) (hy : ev s y = iv q) :
    OpR P ⟨d, .store T x y, ty, pos, af, gd⟩ s w fun u w' => u = undef ∧ Kp (fun b => H b = none) w w' ∧ St w0 H w' (.pr (NS e ei n V sh (xs.set i.toNat x')) :: F) := by
  have hi : i.toNat < n := by omega
  obtain ⟨S1, S2, i1, i2, ap, ho', r⟩ := HS.own
  obtain ⟨g, pre, post, rs, Si, So, hg, hng, hno, hin, hon, apo, hea, hH, hl, hoi, _, hcl⟩ := (NS.prd ho').opn hi
  have hadd : padd (eaddr V (i.toNat * 4)) off = .pointer (some ⟨g, i.toNat * 4 + off, none⟩) := by
    rw [hea]; show Value.pointer (some ((⟨g, i.toNat * 4, none⟩ : Addr).add off)) = _
    unfold Addr.add; split <;> simp_all
  rw [hadd] at hx
  have hoff : off < 4 := by rcases ho with ⟨h, _⟩ | ⟨h, _⟩ <;> omega
  have hlt : i.toNat * 4 + off < (pre ++ (c4 (sh i.toNat) (xs.getD i.toNat dN) ++ post)).length := by simp [hl, c4]; omega
  have hc4 : (c4 (sh i.toNat) (xs.getD i.toNat dN)).set off (iv q) = c4 (sh i.toNat) x' := by rcases ho with ⟨rfl, rfl⟩ | ⟨rfl, rfl⟩ <;> rfl
  have hset : (pre ++ (c4 (sh i.toNat) (xs.getD i.toNat dN) ++ post)).set (i.toNat * 4 + off) (iv q) = pre ++ (c4 (sh i.toNat) x' ++ post) := by
    rw [List.set_append_right _ _ (by omega), List.set_append_left _ _ (by simp [c4]; omega), ← hc4]
    congr 3; omega
  have hrun := run_store1 (P := P) (d := d) (ty := ty) (pos := pos) (af := af) (gd := gd) hH hlt hT (V := iv q) rfl hx hy
  rw [hset] at hrun
  have hgl : g < w.heap.size := (i1 g hg).2
  have hgn : H g = none := (i1 g hg).1
  have hot : ∀ b, b ≠ g → hp (setB w g (.cells (pre ++ (c4 (sh i.toNat) x' ++ post)).toArray e (0, 0))) b = hp w b := fun b hb => setB_ne _ hb
  unfold OpR
  rw [hrun]
  refine ⟨rfl, ⟨by simp [setB], fun k hk hn => setB_ne _ fun e => hn (e ▸ hgn)⟩, HS.os, HS.tape, HS.out, by simpa [setB] using HS.size, fun b o eb => ?_, S1, S2, fun b hb => by simpa [setB] using i1 b hb, fun b hb => by simpa [setB] using i2 b hb, ap, NS.pr ?_, r.loc (fun b hb => hot b fun e => ap g hg (e ▸ hb)) fun _ h => h⟩
  · have : b ≠ g := fun e => by rw [e, hgn] at eb; cases eb
    exact (hot b this).trans (HS.sub _ _ eb)
  · obtain ⟨p, T1, T2, ep, j1, j2, ap', k1, k2⟩ := own_node hoi
    have ep1 : sh i.toNat = p := by simp [c4] at ep; exact Prod.ext ep.1 ep.2
    have q1 : x'.1 = (xs.getD i.toNat dN).1 := by rcases ho with ⟨_, rfl⟩ | ⟨_, rfl⟩ <;> rfl
    have q2 : x'.2.1 = (xs.getD i.toNat dN).2.1 := by rcases ho with ⟨_, rfl⟩ | ⟨_, rfl⟩ <;> rfl
    subst ep1
    refine hcl _ x' Si S1 (fun b hb => hot b fun e => hno (e ▸ hb)) (setB_at _ hgl) ?_ hng apo hg hin hon
    refine node_own j1 j2 ap' ?_ ?_
    · rw [q1]; exact k1.loc (fun b hb => hot b fun e => hng (e ▸ j1 b hb)) fun _ h => h
    · rw [q2]; exact k2.loc (fun b hb => hot b fun e => hng (e ▸ j2 b hb)) fun _ h => h
theorem own_row_set {e ei : TypeId} {H : Hp} {xs : List Int} {v : Value} {S : Bs} (k : Own (RowT ei) H xs [v] S) {z : Nat} (hz : z < xs.length) :
    ∃ (g : Nat) (l : List Value), S g ∧ eaddr v z = .pointer (some ⟨g, z, none⟩) ∧ v.ownBlock = some g ∧ H g = some (.cells l.toArray ei (0, 0)) ∧ z < l.length ∧ ∀ (q : Int) (H' : Hp), (∀ b, S b → b ≠ g → H' b = H b) → H' g = some (.cells (l.set z (iv q)).toArray ei (0, 0)) → Own (RowT ei) H' (xs.set z q) [v] S := by
  obtain ⟨g, pre, ci, post, Si, hg, hng, hin, hob, hea, hH, hl, hoi, hu⟩ := Own.focus z k hz
  obtain rfl : ci = [iv (xs.getD z 0)] := hoi
  have h1 : (RowT ei).sz = 1 := rfl
  have hl' : pre.length = z := by simpa [Ty.sz] using hl
  refine ⟨g, _, hg, hea z, hob, hH, by simp [hl'], fun q H' hH' hg' => ?_⟩
  refine hu H' q [iv q] rfl (fun b hb hne _ => hH' b hb hne) ?_ rfl
  rw [hg']
  congr 3
  rw [List.set_append_right _ _ (by omega)]
  simp [hl']
/-- A number in an inner row. -/
theorem o_nsr {i : Int} {z q : Int} {x' : NodeD} {u : Value} (HS : St w0 H w (.pr (NS e ei n V sh xs) :: F)) (h0 : 0 ≤ i) (h1 : i < (n : Int)) (hT : stB P T 1 = true)
    (ho : u = (sh i.toNat).1 ∧ z < ((xs.getD i.toNat dN).1.length : Int) ∧ x' = ((xs.getD i.toNat dN).1.set z.toNat q, (xs.getD i.toNat dN).2) ∨ u = (sh i.toNat).2 ∧ z < ((xs.getD i.toNat dN).2.1.length : Int) ∧ x' = ((xs.getD i.toNat dN).1, (xs.getD i.toNat dN).2.1.set z.toNat q, (xs.getD i.toNat dN).2.2)) (hz : 0 ≤ z)
    (hx : ev s x = eaddr u (z.toNat * 1)) (hy : ev s y = iv q) :
    OpR P ⟨d, .store T x y, ty, pos, af, gd⟩ s w fun u w' => u = undef ∧ Kp (fun b => H b = none) w w' ∧ St w0 H w' (.pr (NS e ei n V sh (xs.set i.toNat x')) :: F) := by
  have hi : i.toNat < n := by omega
  obtain ⟨S1, S2, i1, i2, ap, ho', r⟩ := HS.own
  obtain ⟨g, pre, post, rs, Si, So, hg, hng, hno, hin, hon, apo, hea, hH, hl, hoi, _, hcl⟩ := (NS.prd ho').opn hi
  obtain ⟨p, T1, T2, ep, j1, j2, ap', k1, k2⟩ := own_node hoi
  have ep1 : sh i.toNat = p := by simp [c4] at ep; exact Prod.ext ep.1 ep.2
  -- the row, and what else there is
  have key : ∃ (row : List Int) (R R' : Bs), Own (RowT ei) (hp w) row [u] R ∧ z.toNat < row.length ∧ In R Si ∧ In R' Si ∧ Apart R R' ∧ c4 (sh i.toNat) x' = c4 (sh i.toNat) (xs.getD i.toNat dN) ∧
      ∀ H' : Hp, (∀ b, R' b → H' b = hp w b) → Own (RowT ei) H' (row.set z.toNat q) [u] R → Own (NodeT ei) H' x' (c4 (sh i.toNat) x') Si := by
    rcases ho with ⟨rfl, hz1, rfl⟩ | ⟨rfl, hz1, rfl⟩
    · refine ⟨_, T1, T2, by rw [ep1]; exact k1, by omega, j1, j2, ap', rfl, fun H' hH' k => ?_⟩
      rw [ep1] at k ⊢
      exact node_own j1 j2 ap' k (k2.loc hH' fun _ h => h)
    · refine ⟨_, T2, T1, by rw [ep1]; exact k2, by omega, j2, j1, fun b h1 h2 => ap' b h2 h1, rfl, fun H' hH' k => ?_⟩
      rw [ep1] at k ⊢
      exact node_own j1 j2 ap' (k1.loc hH' fun _ h => h) k
  obtain ⟨row, R, R', kr, hzl, jr, jr', apr, hc4, hup⟩ := key
  obtain ⟨g', l, hg', hea', hob, hH', hzl', hset⟩ := own_row_set (e := e) kr hzl
  rw [Nat.mul_one, hea'] at hx
  have hrun := run_store1 (P := P) (d := d) (ty := ty) (pos := pos) (af := af) (gd := gd) hH' hzl' hT (V := iv q) rfl hx hy
  have hgl : g' < w.heap.size := (i1 g' (hin g' (jr g' hg'))).2
  have hgn : H g' = none := (i1 g' (hin g' (jr g' hg'))).1
  have hot : ∀ b, b ≠ g' → hp (setB w g' (.cells (l.set z.toNat (iv q)).toArray ei (0, 0))) b = hp w b := fun b hb => setB_ne _ hb
  unfold OpR
  rw [hrun]
  refine ⟨rfl, ⟨by simp [setB], fun k hk hn => setB_ne _ fun e => hn (e ▸ hgn)⟩, HS.os, HS.tape, HS.out, by simpa [setB] using HS.size, fun b o eb => ?_, S1, S2, fun b hb => by simpa [setB] using i1 b hb, fun b hb => by simpa [setB] using i2 b hb, ap, NS.pr ?_, r.loc (fun b hb => hot b fun e => ap g' (hin _ (jr _ hg')) (e ▸ hb)) fun _ h => h⟩
  · have : b ≠ g' := fun e => by rw [e, hgn] at eb; cases eb
    exact (hot b this).trans (HS.sub _ _ eb)
  · have hgg : g ≠ g' := fun e => hng (e ▸ jr g' hg')
    refine hcl _ x' Si S1 (fun b hb => hot b fun e => apo g' (jr g' hg') (e ▸ hb)) ?_ ?_ hng apo hg hin hon
    · rw [hot g hgg, hH, hc4]
    · exact hup _ (fun b hb => hot b fun e => apr g' hg' (e ▸ hb)) (hset q _ (fun b hb hne => hot b hne) (setB_at _ hgl))
/-! ### what stands of a state -/
theorem padd_zero {pv : Value} : padd pv 0 = pv := by
  unfold padd
  split
  · simp [Addr.add]
  · rfl
def SFn (V : Value) (n : Nat) (sh : Shp) (H : Hp) : Prop := ∀ i, i < n → AtH H (eaddr V (i * 4)) [(sh i).1, (sh i).2]
/-- The box of a state, its cells but for what may turn; and where the inner rows lie. -/
def Phi {α : Type} (g : Nat) (f : α → List Value) (V : Value) (n : Nat) (sh : Shp) (w : World) : Prop := (∃ a, AtH (hp w) (.pointer (some ⟨g, 0, none⟩)) (f a)) ∧ SFn V n sh (hp w)
theorem Phi.below {α : Type} {g : Nat} {f : α → List Value} (h : Phi g f V n sh w) (hb : Below w.heap.size w w') : Phi g f V n sh w' :=
  ⟨h.1.imp fun _ k => k.sub (Below.sub' hb), fun i hi => (h.2 i hi).sub (Below.sub' hb)⟩
theorem Phi.of {α : Type} {g : Nat} {f : α → List Value} {T : TypeId} (a : α) (HS : St w0 H w F) (i j : Nat) (hi : F[i]? = some (.bx g T (f a))) (hj : F[j]? = some (.pr (NS e ei n V sh xs))) : Phi g f V n sh w :=
  ⟨⟨a, HS.boxAt i hi⟩, fun k hk => by have := (HS.nsAt j hj hk).seg 0 2; simpa [c4, padd_zero] using this⟩
theorem exSeg {α : Type} {H : Hp} {pv : Value} {f : α → List Value} (h : ∃ a, AtH H pv (f a)) (off m : Nat) : ∃ a, AtH H (padd pv off) (((f a).drop off).take m) := h.imp fun _ k => k.seg off m
theorem exGet {α : Type} {H : Hp} {pv : Value} {f : α → List Value} {cs : List Value} (h : ∃ a, AtH H pv (f a)) (hc : ∀ a, f a = cs) : AtH H pv cs := by
  obtain ⟨a, k⟩ := h
  rwa [hc] at k
end
end Go.Proofs.Ytpfibofoeblapaa
