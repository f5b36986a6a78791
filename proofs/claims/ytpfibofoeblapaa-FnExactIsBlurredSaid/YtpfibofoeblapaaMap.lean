/- A map from strings to rows of numbers. -/
import Derived.Test.YtpfibofoeblapaaMv
import Derived.MapKept
set_option linter.unusedVariables false
set_option linter.unusedSimpArgs false
namespace Go.Proofs.Ytpfibofoeblapaa
open Go Go.RowKit
abbrev Grp := List (ByteArray × List Int)
abbrev nilS : Value := .slice none 0 0
def mget : Grp → ByteArray → List Int
  | [], _ => []
  | p :: m, k => if p.1 = k then p.2 else mget m k
def mput : Grp → ByteArray → List Int → Grp
  | [], k, x => [(k, x)]
  | p :: m, k, x => if p.1 = k then (k, x) :: m else p :: mput m k x
def mupd (sh : ByteArray → Value) (k : ByteArray) (v : Value) : ByteArray → Value := fun k' => if k' = k then v else sh k'
def Ents (sh : ByteArray → Value) : Grp → List MapEntry → Prop
  | [], l => l = []
  | p :: m, l => ∃ e l', l = e :: l' ∧ e.key = .string p.1 ∧ e.val = sh p.1 ∧ Ents sh m l'
def NoK (m : Grp) (k : ByteArray) : Prop := ∀ p ∈ m, p.1 ≠ k
def Dist (m : Grp) : Prop := (m.map Prod.fst).Nodup
theorem Ents.congr {sh sh' : ByteArray → Value} : ∀ {m : Grp} {l : List MapEntry}, (∀ p ∈ m, sh' p.1 = sh p.1) → Ents sh m l → Ents sh' m l
  | [], _, _, h => h
  | p :: m, _, hs, ⟨e, l', h1, h2, h3, h4⟩ => ⟨e, l', h1, h2, h3.trans (hs p (by simp)).symm, h4.congr fun q hq => hs q (by simp [hq])⟩
theorem same_str {a b : ByteArray} : Instr.sameNow .string (.string a) (.string b) = some (decide (a = b)) := by
  have h : (a == b) = decide (a = b) := by
    rw [Bool.eq_iff_iff, MapKept.bytes_beq]; simp
  show some (a == b) = _
  rw [h]
theorem ents_find {sh : ByteArray → Value} {k : ByteArray} : ∀ {m : Grp} {l : List MapEntry} (i : Nat), Ents sh m l → Dist m →
    (∃ pos, Instr.findNow .string (.string k) l i = some (some (i + pos, sh k)) ∧ (l[pos]?).map (·.key) = some (.string k) ∧ ¬ NoK m k ∧ ∀ v x, Ents (mupd sh k v) (mput m k x) (l.modify pos fun e => { e with key := .string k, val := v })) ∨
    (Instr.findNow .string (.string k) l i = some none ∧ NoK m k ∧ ∀ v x b, Ents (mupd sh k v) (mput m k x) (l ++ [{ key := .string k, val := v, born := b }]))
  | [], l, i, h, _ => by
    obtain rfl : l = [] := h
    exact .inr ⟨rfl, by simp [NoK], fun v x b => ⟨_, [], rfl, rfl, by simp [mupd], rfl⟩⟩
  | p :: m, _, i, ⟨e, l', rfl, h2, h3, h4⟩, hd => by
    have hd' : p.1 ∉ m.map Prod.fst ∧ Dist m := by simpa [Dist] using hd
    unfold Instr.findNow
    rw [h2, same_str]
    by_cases hk : p.1 = k
    · subst hk
      have hn : ∀ q ∈ m, q.1 ≠ p.1 := fun q hq e => hd'.1 (List.mem_map.2 ⟨q, hq, e⟩)
      refine .inl ⟨0, by simp [h3], by simp [h2], fun h => h p (by simp) rfl, fun v x => ?_⟩
      simp only [mput, if_pos rfl, List.modify_zero_cons]
      exact ⟨_, l', rfl, rfl, by simp [mupd], h4.congr fun q hq => by simp [mupd, hn q hq]⟩
    · have hk' : k ≠ p.1 := fun e => hk e.symm
      simp only [hk', decide_false]
      rcases ents_find (k := k) (i + 1) h4 hd'.2 with ⟨pos, q1, q2, q3, q4⟩ | ⟨q1, q2, q3⟩
      · refine .inl ⟨pos + 1, by rw [q1]; simp; omega, by simpa using q2, fun h => q3 fun r hr => h r (by simp [hr]), fun v x => ?_⟩
        simp only [mput, if_neg hk, List.modify_succ_cons]
        exact ⟨e, _, rfl, h2, by simp [mupd, hk, h3], q4 v x⟩
      · refine .inr ⟨q1, ?_, fun v x b => ?_⟩
        · intro r hr
          rcases List.mem_cons.1 hr with rfl | hr
          · exact hk
          · exact q2 r hr
        · simp only [mput, if_neg hk]
          exact ⟨e, _, rfl, h2, by simp [mupd, hk, h3], q3 v x b⟩
theorem mput_mem {m : Grp} {k : ByteArray} {x : List Int} {p : ByteArray × List Int} (h : p ∈ mput m k x) : p = (k, x) ∨ p ∈ m := by
  induction m with
  | nil => simpa [mput] using h
  | cons q m ih =>
    unfold mput at h
    split at h
    · rcases List.mem_cons.1 h with h | h
      · exact .inl h
      · exact .inr (by simp [h])
    · rcases List.mem_cons.1 h with h | h
      · exact .inr (by simp [h])
      · exact (ih h).imp id fun h => by simp [h]
theorem mput_dist {m : Grp} {k : ByteArray} {x : List Int} (h : Dist m) : Dist (mput m k x) := by
  induction m with
  | nil => simp [mput, Dist]
  | cons q m ih =>
    have h' : q.1 ∉ m.map Prod.fst ∧ Dist m := by simpa [Dist] using h
    unfold mput
    split
    · rename_i e
      have : k ∉ m.map Prod.fst := e ▸ h'.1
      simpa [Dist] using ⟨by simpa using this, h'.2⟩
    · rename_i e
      have h2 := ih h'.2
      have : q.1 ∉ (mput m k x).map Prod.fst := by
        intro hm
        obtain ⟨r, hr, e2⟩ := List.mem_map.1 hm
        rcases mput_mem hr with rfl | hr
        · exact e e2.symm
        · exact h'.1 (List.mem_map.2 ⟨r, hr, e2⟩)
      exact List.nodup_cons.2 ⟨this, h2⟩
theorem mput_nok {m : Grp} {k k' : ByteArray} {x : List Int} (h : NoK (mput m k x) k') : k' ≠ k ∧ NoK m k' := by
  induction m with
  | nil => exact ⟨fun e => h (k, x) (by simp [mput]) e.symm, by simp [NoK]⟩
  | cons q m ih =>
    unfold mput at h
    split at h
    · rename_i e
      refine ⟨fun e2 => h (k, x) (by simp) e2.symm, fun r hr => ?_⟩
      rcases List.mem_cons.1 hr with rfl | hr
      · rw [e]; exact fun e2 => h (k, x) (by simp) e2
      · exact h r (by simp [hr])
    · obtain ⟨a, b⟩ := ih fun r hr => h r (by simp [hr])
      refine ⟨a, fun r hr => ?_⟩
      rcases List.mem_cons.1 hr with rfl | hr
      · exact h r (by simp)
      · exact b r hr
theorem mget_nok {k : ByteArray} : ∀ {m : Grp}, NoK m k → mget m k = []
  | [], _ => rfl
  | p :: m, hk => by
    unfold mget
    rw [if_neg (hk p (by simp))]
    exact mget_nok fun r hr => hk r (by simp [hr])
theorem mget_has {k : ByteArray} : ∀ {m : Grp}, ¬ NoK m k → (∀ p ∈ m, p.2 ≠ []) → mget m k ≠ []
  | [], hk, _ => absurd (by simp [NoK]) hk
  | p :: m, hk, h5 => by
    unfold mget
    split
    · exact h5 p (by simp)
    · rename_i e
      refine mget_has (fun h => hk fun r hr => ?_) fun q hq => h5 q (by simp [hq])
      rcases List.mem_cons.1 hr with rfl | hr
      · exact e
      · exact h r hr
abbrev RowI (ei : TypeId) : Ty := .sl ei (.int .i64)
def MOwn (ei : TypeId) (H : Hp) (sh : ByteArray → Value) : Grp → Bs → Prop
  | [], _ => True
  | p :: m, S => ∃ S1 S2, In S1 S ∧ In S2 S ∧ Apart S1 S2 ∧ Own (RowI ei) H p.2 [sh p.1] S1 ∧ MOwn ei H sh m S2
theorem MOwn.congr {ei : TypeId} {H H' : Hp} {sh sh' : ByteArray → Value} : ∀ {m : Grp} {S S' : Bs}, (∀ p ∈ m, sh' p.1 = sh p.1) → (∀ b, S b → H' b = H b) → In S S' → MOwn ei H sh m S → MOwn ei H' sh' m S'
  | [], _, _, _, _, _, _ => trivial
  | p :: m, _, _, hs, hH, hS, ⟨S1, S2, i1, i2, ap, h1, h2⟩ => by
    refine ⟨S1, S2, fun b h => hS b (i1 b h), fun b h => hS b (i2 b h), ap, ?_, h2.congr (fun q hq => hs q (by simp [hq])) (fun b hb => hH b (i2 b hb)) fun _ h => h⟩
    rw [hs p (by simp)]
    exact h1.loc (fun b hb => hH b (i1 b hb)) fun _ h => h
theorem mown_opn {ei : TypeId} {H : Hp} {sh : ByteArray → Value} {k : ByteArray} : ∀ {m : Grp} {S : Bs}, MOwn ei H sh m S → Dist m → (NoK m k → sh k = nilS) →
    ∃ Sk So, In Sk S ∧ In So S ∧ Apart Sk So ∧ Own (RowI ei) H (mget m k) [sh k] Sk ∧
      ∀ (H' : Hp) (x : List Int) (v : Value) (Sk' U : Bs), (∀ b, So b → H' b = H b) → Own (RowI ei) H' x [v] Sk' → Apart Sk' So → In Sk' U → In So U → MOwn ei H' (mupd sh k v) (mput m k x) U
  | [], S, _, _, hn => by
    refine ⟨fun _ => False, fun _ => False, fun _ h => h.elim, fun _ h => h.elim, fun _ h => h.elim, ?_, fun H' x v Sk' U _ ho ap i1 i2 => ⟨Sk', fun _ => False, i1, fun _ h => h.elim, fun _ _ h => h, by simpa [mupd] using ho, trivial⟩⟩
    exact .inl ⟨by rw [hn (by simp [NoK])], rfl⟩
  | p :: m, S, ⟨S1, S2, i1, i2, ap, h1, h2⟩, hd, hn => by
    have hd' : p.1 ∉ m.map Prod.fst ∧ Dist m := by simpa [Dist] using hd
    by_cases hk : p.1 = k
    · subst hk
      have hne : ∀ q ∈ m, q.1 ≠ p.1 := fun q hq e => hd'.1 (List.mem_map.2 ⟨q, hq, e⟩)
      refine ⟨S1, S2, i1, i2, ap, by simpa [mget] using h1, fun H' x v Sk' U hH ho ap' j1 j2 => ?_⟩
      simp only [mput, if_pos rfl]
      exact ⟨Sk', S2, j1, j2, ap', by simpa [mupd] using ho, h2.congr (fun q hq => by simp [mupd, hne q hq]) hH fun _ h => h⟩
    · obtain ⟨Sk, So, a1, a2, a3, a4, a5⟩ := mown_opn (k := k) h2 hd'.2 fun h => hn fun r hr => by
        rcases List.mem_cons.1 hr with rfl | hr
        · exact hk
        · exact h r hr
      refine ⟨Sk, fun b => S1 b ∨ So b, fun b h => i2 b (a1 b h), ?_, ?_, by simpa [mget, hk] using a4, fun H' x v Sk' U hH ho ap' j1 j2 => ?_⟩
      · rintro b (h | h)
        · exact i1 b h
        · exact i2 b (a2 b h)
      · rintro b h (h' | h')
        · exact ap b h' (a1 b h)
        · exact a3 b h h'
      · simp only [mput, if_neg hk]
        refine ⟨S1, fun b => Sk' b ∨ So b, fun b h => j2 b (.inl h), ?_, ?_, ?_, a5 H' x v Sk' _ (fun b h => hH b (.inr h)) ho (fun b h h' => ap' b h (.inr h')) (fun b h => .inl h) fun b h => .inr h⟩
        · rintro b (h | h)
          · exact j1 b h
          · exact j2 b (.inr h)
        · rintro b h (h' | h')
          · exact ap' b h' (.inl h)
          · exact ap b h (a2 b h')
        · simp only [mupd, if_neg hk]
          exact h1.loc (fun b hb => hH b (.inl hb)) fun _ h => h
def MF (g : Nat) (sh : ByteArray → Value) (m : Grp) (H : Hp) : Prop := ∃ es clock, H g = some (.map es clock) ∧ Ents sh m es.toList ∧ Dist m ∧ (∀ k, NoK m k → sh k = nilS) ∧ ∀ p ∈ m, p.2 ≠ []
/-- The map. -/
def MP (ei : TypeId) (g : Nat) (sh : ByteArray → Value) (m : Grp) (H : Hp) (S : Bs) : Prop := MF g sh m H ∧ ∃ S', S g ∧ ¬ S' g ∧ In S' S ∧ MOwn ei H sh m S'
/-- A map of which one row is taken out. -/
def MHole (ei : TypeId) (g : Nat) (sh : ByteArray → Value) (m : Grp) (k : ByteArray) (H : Hp) (S : Bs) : Prop := MF g sh m H ∧ ∃ So, S g ∧ ¬ So g ∧ In So S ∧
  ∀ (H' : Hp) (x : List Int) (v : Value) (Sk' U : Bs), (∀ b, So b → H' b = H b) → Own (RowI ei) H' x [v] Sk' → Apart Sk' So → In Sk' U → In So U → MOwn ei H' (mupd sh k v) (mput m k x) U
section
variable {P : Program} {s : Sl} {w w' w0 : World} {H H' : Hp} {F G : List Ob} {S S' : Bs} {d : Option Tmp} {ty : TypeId} {pos : String} {af : Array Edge} {gd : Option (Nat × Bool)} {x y z : Operand} {T : TypeId} {ei : TypeId} {g : Nat} {sh : ByteArray → Value} {m : Grp} {k : ByteArray}
theorem MF.at (h : MF g sh m H) (e : H' g = H g) : MF g sh m H' := by
  obtain ⟨es, c, h1, h2⟩ := h
  exact ⟨es, c, e.trans h1, h2⟩
theorem MP.pr (h : MP ei g sh m H S) : (Ob.pr (MP ei g sh m)).A H S := by
  obtain ⟨h0, S', h1, h2, h3, h4⟩ := h
  exact fun H' U hH hS => ⟨h0.at (hH g h1), S', hS g h1, h2, fun b hb => hS b (h3 b hb), h4.congr (fun _ _ => rfl) (fun b hb => hH b (h3 b hb)) fun _ h => h⟩
theorem MHole.pr (h : MHole ei g sh m k H S) : (Ob.pr (MHole ei g sh m k)).A H S := by
  obtain ⟨h0, So, h1, h2, h3, h4⟩ := h
  exact fun H1 U hH hS => ⟨h0.at (hH g h1), So, hS g h1, h2, fun b hb => hS b (h3 b hb), fun H' x v Sk' U' h => h4 H' x v Sk' U' fun b hb => (h b hb).trans (hH b (h3 b hb))⟩
theorem St.mfOf {A : Hp → Bs → Prop} (HS : St w0 H w F) (i : Nat) (hi : F[i]? = some (.pr A)) (hA : ∀ H S, A H S → MF g sh m H) : MF g sh m (hp w) := by
  obtain ⟨S, _, _, _, _, ho, _⟩ := HS.own.front i hi
  exact hA _ _ (ho (hp w) S (fun _ _ => rfl) fun _ h => h)
theorem St.mf (HS : St w0 H w F) (i : Nat) (hi : F[i]? = some (.pr (MP ei g sh m))) : MF g sh m (hp w) := HS.mfOf i hi fun _ _ h => h.1
/-- A row is taken out. -/
theorem St.mopn (k : ByteArray) (HS : St w0 H w (.pr (MP ei g sh m) :: F)) : St w0 H w (.ow (RowI ei) (mget m k) [sh k] :: .pr (MHole ei g sh m k) :: F) := by
  obtain ⟨S1, S2, i1, i2, ap, ho, r⟩ := HS.own
  obtain ⟨h0, S', h1, h2, h3, h4⟩ := ho (hp w) S1 (fun _ _ => rfl) fun _ h => h
  obtain ⟨es, c, e1, e2, e3, e4, e5⟩ := h0
  obtain ⟨Sk, So, a1, a2, a3, a4, a5⟩ := mown_opn (k := k) h4 e3 (e4 k)
  refine HS.with_own ⟨Sk, fun b => b = g ∨ So b ∨ S2 b, fun b h => i1 b (h3 b (a1 b h)), ?_, ?_, a4, fun b => b = g ∨ So b, S2, ?_, fun b h => .inr (.inr h), ?_, MHole.pr ⟨⟨es, c, e1, e2, e3, e4, e5⟩, So, .inl rfl, fun h => h2 (a2 g h), fun b h => .inr h, a5⟩, r⟩
  · rintro b (rfl | h | h)
    · exact i1 _ h1
    · exact i1 b (h3 b (a2 b h))
    · exact i2 b h
  · rintro b h (rfl | h' | h')
    · exact h2 (a1 _ h)
    · exact a3 b h h'
    · exact ap b (h3 b (a1 b h)) h'
  · rintro b (h | h)
    · exact .inl h
    · exact .inr (.inl h)
  · rintro b (rfl | h) h'
    · exact ap _ h1 h'
    · exact ap b (h3 b (a2 b h)) h'
theorem St.mrd (k : ByteArray) (HS : St w0 H w F) (i : Nat) (hi : F[i]? = some (.pr (MP ei g sh m))) : Rd (RowI ei) (hp w) (mget m k) [sh k] := by
  have h : St w0 H w (.pr (MP ei g sh m) :: F.eraseIdx i) := HS.front i hi
  exact (h.mopn k).rd 0 rfl
def mapT (P : Program) (T : TypeId) : Prop := ∃ kt et, P.underlying T = some (.map kt et) ∧ P.underlying kt = some .string ∧ ∀ w, (zeroValue et).run P w = .ok nilS w
theorem r_lkp (h : MF g sh m (hp w)) (hT : mapT P T) (hx : ev s x = .map (some g)) (hy : ev s y = .string k) : (execOp (ev s) ⟨d, .lookup T x y false, ty, pos, af, gd⟩).run P w = .ok (.value (sh k)) w := by
  obtain ⟨es, c, e1, e2, e3, e4, e5⟩ := h
  obtain ⟨kt, et, t1, t2, t3⟩ := hT
  have hl : (Instr.lookup T (.map (some g)) (.string k) false).run P w = .ok (sh k) w := by
    rcases ents_find (k := k) 0 e2 e3 with ⟨pos, q1, _, _, _⟩ | ⟨q1, q2, _⟩
    · simp [Instr.lookup, run_und t1, MapKept.run_getObj_map (w := w) (r := g) e1, MapKept.run_checkKey t2 (k := .string k) (by trivial), MapKept.run_findKey t2 q1, Result.andThen]
    · simp [Instr.lookup, run_und t1, MapKept.run_getObj_map (w := w) (r := g) e1, MapKept.run_checkKey t2 (k := .string k) (by trivial), MapKept.run_findKey t2 q1, t3, Result.andThen, e4 k q2]
  simp only [execOp, hx, hy, Sem.run_bind, Sem.run_pure, hl, Result.andThen_ok]
theorem o_mkmap (HS : St w0 H w F) : OpR P ⟨d, .makeMap T none, ty, pos, af, gd⟩ s w fun v w' => ∃ g, v = .map (some g) ∧ Below w.heap.size w w' ∧ St w0 H w' (.pr (MP ei g (fun _ => nilS) []) :: F) := by
  have hr : (execOp (ev s) ⟨d, .makeMap T none, ty, pos, af, gd⟩).run P w = .ok (.value (.map (some w.heap.size))) (w.alloc (.map #[] 0)) := rfl
  unfold OpR
  rw [hr]
  have hbl := below_push (w := w) (.map #[] 0)
  refine ⟨_, rfl, hbl, HS.new hbl (S := fun b => b = w.heap.size) (fun b e => by subst e; simp) (MP.pr ⟨⟨#[], 0, push_at _, rfl, by simp [Dist], fun _ _ => rfl, by simp⟩, fun _ => False, rfl, fun h => h, fun _ h => h.elim, trivial⟩)⟩
/-- .. and another one is put in its place. -/
theorem o_mput {v : Value} {xs : List Int} (HS : St w0 H w (.ow (RowI ei) xs [v] :: .pr (MHole ei g sh m k) :: F)) (hne : xs ≠ []) (hT : mapT P T) (hx : ev s x = .map (some g)) (hy : ev s y = .string k) (hz : ev s z = v) :
    OpR P ⟨d, .mapUpdate T x y z, ty, pos, af, gd⟩ s w fun u w' => u = undef ∧ Kp (fun b => b = g) w w' ∧ St w0 H w' (.pr (MP ei g (mupd sh k v) (mput m k xs)) :: F) := by
  obtain ⟨kt, et, t1, t2, t3⟩ := hT
  obtain ⟨S1, S2, i1, i2, ap, ho, T1, T2, j1, j2, ap', hh, r⟩ := HS.own
  obtain ⟨⟨es, c, e1, e2, e3, e4, e5⟩, So, h1, h2, h3, h4⟩ := hh (hp w) T1 (fun _ _ => rfl) fun _ h => h
  have hg : g < w.heap.size := hp_lt e1
  have key : ∃ es' c', (Instr.mapUpdate T (.map (some g)) (.string k) v).run P w = .ok () (setB w g (.map es' c')) ∧ Ents (mupd sh k v) (mput m k xs) es'.toList := by
    rcases ents_find (k := k) 0 e2 e3 with ⟨p, q1, q2, _, q4⟩ | ⟨q1, q2, q3⟩
    · obtain ⟨e0, he0, hk0⟩ : ∃ e0, es[p]? = some e0 ∧ e0.key = .string k := by
        cases hq : es[p]? with
        | none => simp [hq] at q2
        | some e0 => exact ⟨e0, rfl, by simpa [hq] using q2⟩
      rw [Nat.zero_add] at q1
      refine ⟨es.modify p fun e => { e with key := .string k, val := v }, c, ?_, by simpa using q4 v xs⟩
      simp [Instr.mapUpdate, run_und t1, MapKept.run_getObj_map (w := w) (r := g) e1, MapKept.run_checkKey t2 (k := .string k) (by trivial), MapKept.run_findKey t2 q1, he0, hk0, MapKept.run_keyThatStays (d := .string) (k := .string k) (by trivial), MapKept.run_setObj_map _ (w := w) (r := g) e1, Result.andThen, setB]
    · refine ⟨es.push { key := .string k, val := v, born := c }, c + 1, ?_, by simpa using q3 v xs c⟩
      simp [Instr.mapUpdate, run_und t1, MapKept.run_getObj_map (w := w) (r := g) e1, MapKept.run_checkKey t2 (k := .string k) (by trivial), MapKept.run_findKey t2 q1, MapKept.run_setObj_map _ (w := w) (r := g) e1, Result.andThen, setB]
  obtain ⟨es', c', hrun, hents⟩ := key
  have hr : (execOp (ev s) ⟨d, .mapUpdate T x y z, ty, pos, af, gd⟩).run P w = .ok .skip (setB w g (.map es' c')) := by
    simp only [execOp, hx, hy, hz, Sem.run_bind, Sem.run_pure, hrun, Result.andThen_ok]
  have hot : ∀ b, b ≠ g → hp (setB w g (.map es' c')) b = hp w b := fun b hb => setB_ne _ hb
  have hgT : (i2 g (j1 g h1)).1 = (i2 g (j1 g h1)).1 := rfl
  have hgn : H g = none := (i2 g (j1 g h1)).1
  unfold OpR
  rw [hr]
  refine ⟨rfl, ⟨by simp [setB], fun b hb hn => setB_ne _ hn⟩, HS.os, HS.tape, HS.out, by simpa [setB] using HS.size, fun b o eb => ?_, fun b => S1 b ∨ T1 b, T2, ?_, fun b hb => by simpa [setB] using i2 b (j2 b hb), ?_, MP.pr ⟨⟨es', c', setB_at _ hg, hents, mput_dist e3, ?_, ?_⟩, fun b => S1 b ∨ So b, .inr h1, ?_, ?_, ?_⟩, ?_⟩
  · have : b ≠ g := fun e => by rw [e, hgn] at eb; cases eb
    exact (hot b this).trans (HS.sub _ _ eb)
  · rintro b (hb | hb)
    · simpa [setB] using i1 b hb
    · simpa [setB] using i2 b (j1 b hb)
  · rintro b (hb | hb) h'
    · exact ap b hb (j2 b h')
    · exact ap' b hb h'
  · intro k' hk'
    obtain ⟨a, b⟩ := mput_nok hk'
    simp only [mupd, if_neg a]
    exact e4 k' b
  · intro p hp'
    rcases mput_mem hp' with rfl | h
    · exact hne
    · exact e5 p h
  · rintro (h | h)
    · exact ap g h (j1 g h1)
    · exact h2 h
  · rintro b (h | h)
    · exact .inl h
    · exact .inr (h3 b h)
  · refine h4 _ xs v S1 _ (fun b hb => hot b fun e => h2 (e ▸ hb)) (ho.loc (fun b hb => hot b fun e => ap b hb (j1 b (e ▸ h1))) fun _ h => h) (fun b hb hb' => ap b hb (j1 b (h3 b hb'))) (fun b h => .inl h) fun b h => .inr h
  · exact r.loc (fun b hb => hot b fun e => ap' b (e ▸ h1) hb) fun _ h => h
/-- Is there a row? -/
theorem mnil (HS : St w0 H w F) (k : ByteArray) (i : Nat) (hi : F[i]? = some (.pr (MP ei g sh m))) : ∃ A c, sh k = .slice A (mget m k).length c ∧ A.isNone = decide (mget m k = []) := by
  have h : St w0 H w (.pr (MP ei g sh m) :: F.eraseIdx i) := HS.front i hi
  obtain ⟨es, c, e1, e2, e3, e4, e5⟩ := h.mf 0 rfl
  obtain ⟨A, c, q, _, _, hh⟩ := (h.mopn k).rd 0 rfl
  have q : sh k = .slice A (mget m k).length c := by simpa using q
  refine ⟨A, c, q, ?_⟩
  by_cases hk : NoK m k
  · have hg : mget m k = [] := mget_nok hk
    have := e4 k hk
    rw [this] at q
    injection q with q1
    rw [hg, ← q1]; rfl
  · have hg : mget m k ≠ [] := mget_has hk e5
    rcases hh with h | ⟨a, _, rfl, _⟩
    · exact absurd h hg
    · simp [hg]
end
end Go.Proofs.Ytpfibofoeblapaa
