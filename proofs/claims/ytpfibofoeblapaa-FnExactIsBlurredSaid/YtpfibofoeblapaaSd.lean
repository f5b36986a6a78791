/- Loops in plain terms; structures by their values; what it is to carry out a rule. -/
import Derived.Test.YtpfibofoeblapaaPlain
set_option linter.unusedVariables false
set_option linter.unusedSimpArgs false
namespace Go.Proofs.Ytpfibofoeblapaa
open Go

/-! ### loops -/
theorem iter_inv {σ ρ : Type} {body : σ → Option (Ctl σ ρ)} (I : Nat → σ → Prop) (N : Nat) {PO : σ → Prop} {PR : ρ → Prop}
    (step : ∀ i s, i ≤ N → I i s → (∃ s', body s = some (.out s') ∧ PO s') ∨ (∃ r, body s = some (.ret r) ∧ PR r) ∨ (i < N ∧ ∃ s', body s = some (.go s') ∧ I (i + 1) s')) :
    ∀ (k i : Nat) (s : σ), N < i + k → i ≤ N → I i s → (∃ s', iter body k s = some (.out s') ∧ PO s') ∨ (∃ r, iter body k s = some (.ret r) ∧ PR r)
  | 0, i, s, h, hi, _ => by omega
  | k + 1, i, s, h, hi, hI => by
    rcases step i s hi hI with ⟨s', hb, hp⟩ | ⟨r, hb, hp⟩ | ⟨hlt, s', hb, hI'⟩
    · exact .inl ⟨s', by simp [iter, hb], hp⟩
    · exact .inr ⟨r, by simp [iter, hb], hp⟩
    · rcases iter_inv I N step k (i + 1) s' (by omega) (by omega) hI' with ⟨s2, hs, hp⟩ | ⟨r, hs, hp⟩
      · exact .inl ⟨s2, by simp [iter, hb, hs], hp⟩
      · exact .inr ⟨r, by simp [iter, hb, hs], hp⟩
theorem loopO_inv {σ : Type} {body : σ → Option (Ctl σ Empty)} {s0 : σ} (I : Nat → σ → Prop) (N : Nat) {PO : σ → Prop} (hN : N < 1000000000000) (h0 : I 0 s0)
    (step : ∀ i s, i ≤ N → I i s → (∃ s', body s = some (.out s') ∧ PO s') ∨ (i < N ∧ ∃ s', body s = some (.go s') ∧ I (i + 1) s')) : ∃ s', loopO body fuel s0 = some s' ∧ PO s' := by
  rcases iter_inv (PR := fun _ => False) I N (fun i s hi hI => (step i s hi hI).imp id fun h => .inr h) fuel 0 s0 (by unfold fuel; omega) (by omega) h0 with ⟨s', hs, hp⟩ | ⟨r, _⟩
  · exact ⟨s', by simp [loopO, hs], hp⟩
  · exact r.elim
theorem loopR_inv {σ ρ : Type} {body : σ → Option (Ctl σ ρ)} {s0 : σ} (I : Nat → σ → Prop) (N : Nat) {PO : σ → Prop} {PR : ρ → Prop} (hN : N < 1000000000000) (h0 : I 0 s0)
    (step : ∀ i s, i ≤ N → I i s → (∃ s', body s = some (.out s') ∧ PO s') ∨ (∃ r, body s = some (.ret r) ∧ PR r) ∨ (i < N ∧ ∃ s', body s = some (.go s') ∧ I (i + 1) s')) :
    (∃ s', loopR body fuel s0 = some (.inr s') ∧ PO s') ∨ (∃ r, loopR body fuel s0 = some (.inl r) ∧ PR r) := by
  rcases iter_inv I N step fuel 0 s0 (by unfold fuel; omega) (by omega) h0 with ⟨s', hs, hp⟩ | ⟨r, hs, hp⟩
  · exact .inl ⟨s', by simp [loopR, hs], hp⟩
  · exact .inr ⟨r, by simp [loopR, hs], hp⟩
theorem grd_t {α : Type} {c : Prop} [Decidable c] {a : Option α} (h : c) : grd c a = a := if_pos h

/-! ### structures by their values -/
abbrev SD := List NodeD × List Int
inductive Key where
  | V (u z : Nat)
  | R (u z : Nat)
  | S (u : Nat)
  | M (u : Nat)
  | X (i : Nat)
deriving DecidableEq
def getK (q : SD) : Key → Int
  | .V u z => (q.1.getD u dN).1.getD z 0
  | .R u z => (q.1.getD u dN).2.1.getD z 0
  | .S u => (q.1.getD u dN).2.2.1
  | .M u => (q.1.getD u dN).2.2.2
  | .X i => q.2.getD i 0
def putK (q : SD) (k : Key) (x : Int) : SD := match k with
  | .V u z => (q.1.set u ((q.1.getD u dN).1.set z x, (q.1.getD u dN).2), q.2)
  | .R u z => (q.1.set u ((q.1.getD u dN).1, (q.1.getD u dN).2.1.set z x, (q.1.getD u dN).2.2), q.2)
  | .S u => (q.1.set u ((q.1.getD u dN).1, (q.1.getD u dN).2.1, x, (q.1.getD u dN).2.2.2), q.2)
  | .M u => (q.1.set u ((q.1.getD u dN).1, (q.1.getD u dN).2.1, (q.1.getD u dN).2.2.1, x), q.2)
  | .X i => (q.1, q.2.set i x)
def Ok (n v : Nat) : Key → Prop
  | .V u z => u < n ∧ z < v
  | .R u z => u < n ∧ z < v
  | .S u => u < n
  | .M u => u < n
  | .X i => i < n * n
structure Wf (n v : Nat) (q : SD) : Prop where
  len : q.1.length = n
  row1 : ∀ u, u < n → (q.1.getD u dN).1.length = v
  row2 : ∀ u, u < n → (q.1.getD u dN).2.1.length = v
  nx : q.2.length = n * n
  rng : ∀ k, Ok n v k → 0 ≤ getK q k ∧ getK q k ≤ 2
  many : ∀ u, u < n → getK q (.M u) ≤ 1
theorem gs_same {α : Type} {xs : List α} {i : Nat} {x d : α} (h : i < xs.length) : (xs.set i x).getD i d = x := by simp [List.getD_eq_getElem?_getD, h]
theorem gs_ne {α : Type} {xs : List α} {i j : Nat} {x d : α} (h : i ≠ j) : (xs.set i x).getD j d = xs.getD j d := by simp [List.getD_eq_getElem?_getD, List.getElem?_set_ne h]
section
variable {n v : Nat} {q y : SD} {k : Key} {x : Int}
theorem getK_putK (w : Wf n v q) (hk : Ok n v k) (k' : Key) : getK (putK q k x) k' = if k' = k then x else getK q k' := by
  have hl := w.len
  cases k with
  | V u z =>
    obtain ⟨hu, hz⟩ := hk
    have r1 := w.row1 u hu
    have hz' : z < (q.1.getD u dN).1.length := by omega
    have hu' : u < q.1.length := by omega
    cases k' with
    | V u' z' =>
      by_cases e : u = u'
      · subst e
        simp only [getK, putK, gs_same hu']
        by_cases e2 : z = z'
        · subst e2; rw [gs_same hz']; simp
        · rw [gs_ne e2, if_neg (by simp; omega)]
      · simp only [getK, putK, gs_ne e]; rw [if_neg (by simp; omega)]
    | X i => simp [getK, putK]
    | _ u' =>
      by_cases e : u = u'
      · subst e; simp only [getK, putK, gs_same hu']; simp
      · simp only [getK, putK, gs_ne e]; simp
  | R u z =>
    obtain ⟨hu, hz⟩ := hk
    have r1 := w.row2 u hu
    have hz' : z < (q.1.getD u dN).2.1.length := by omega
    have hu' : u < q.1.length := by omega
    cases k' with
    | R u' z' =>
      by_cases e : u = u'
      · subst e
        simp only [getK, putK, gs_same hu']
        by_cases e2 : z = z'
        · subst e2; rw [gs_same hz']; simp
        · rw [gs_ne e2, if_neg (by simp; omega)]
      · simp only [getK, putK, gs_ne e]; rw [if_neg (by simp; omega)]
    | X i => simp [getK, putK]
    | _ u' =>
      by_cases e : u = u'
      · subst e; simp only [getK, putK, gs_same hu']; simp
      · simp only [getK, putK, gs_ne e]; simp
  | S u =>
    have hu' : u < q.1.length := by rw [hl]; exact hk
    cases k' with
    | X i => simp [getK, putK]
    | S u' =>
      by_cases e : u = u'
      · subst e; simp only [getK, putK, gs_same hu']; simp
      · simp only [getK, putK, gs_ne e]; rw [if_neg (by simp; omega)]
    | _ u' =>
      by_cases e : u = u'
      · subst e; simp only [getK, putK, gs_same hu']; simp
      · simp only [getK, putK, gs_ne e]; simp
  | M u =>
    have hu' : u < q.1.length := by rw [hl]; exact hk
    cases k' with
    | X i => simp [getK, putK]
    | M u' =>
      by_cases e : u = u'
      · subst e; simp only [getK, putK, gs_same hu']; simp
      · simp only [getK, putK, gs_ne e]; rw [if_neg (by simp; omega)]
    | _ u' =>
      by_cases e : u = u'
      · subst e; simp only [getK, putK, gs_same hu']; simp
      · simp only [getK, putK, gs_ne e]; simp
  | X i =>
    have hi : i < q.2.length := by rw [w.nx]; exact hk
    cases k' with
    | X j =>
      by_cases e : i = j
      · subst e; simp only [getK, putK, gs_same hi]; simp
      · simp only [getK, putK, gs_ne e]; rw [if_neg (by simp; omega)]
    | _ => simp [getK, putK]
theorem row_put1 (w : Wf n v q) (hk : Ok n v k) (u : Nat) : ((putK q k x).1.getD u dN).1.length = (q.1.getD u dN).1.length ∧ ((putK q k x).1.getD u dN).2.1.length = (q.1.getD u dN).2.1.length := by
  have hl := w.len
  cases k with
  | X i => exact ⟨rfl, rfl⟩
  | V u' z =>
    have hu' : u' < q.1.length := by rw [hl]; exact hk.1
    by_cases e : u' = u
    · subst e; simp only [putK, gs_same hu']; simp
    · simp only [putK, gs_ne e]; simp
  | R u' z =>
    have hu' : u' < q.1.length := by rw [hl]; exact hk.1
    by_cases e : u' = u
    · subst e; simp only [putK, gs_same hu']; simp
    · simp only [putK, gs_ne e]; simp
  | S u' =>
    have hu' : u' < q.1.length := by rw [hl]; exact hk
    by_cases e : u' = u
    · subst e; simp only [putK, gs_same hu']; simp
    · simp only [putK, gs_ne e]; simp
  | M u' =>
    have hu' : u' < q.1.length := by rw [hl]; exact hk
    by_cases e : u' = u
    · subst e; simp only [putK, gs_same hu']; simp
    · simp only [putK, gs_ne e]; simp
theorem wf_put (w : Wf n v q) (hk : Ok n v k) (hx : 0 ≤ x ∧ x ≤ 2) (hm : ∀ u, k = .M u → x ≤ 1) : Wf n v (putK q k x) := by
  refine ⟨?_, fun u hu => (row_put1 w hk u).1.trans (w.row1 u hu), fun u hu => (row_put1 w hk u).2.trans (w.row2 u hu), ?_, fun k' hk' => ?_, fun u hu => ?_⟩
  · cases k <;> simp [putK, w.len]
  · cases k <;> simp [putK, w.nx]
  · rw [getK_putK w hk]
    split
    · exact hx
    · exact w.rng k' hk'
  · rw [getK_putK w hk]
    split
    · rename_i e; exact hm u e.symm
    · exact w.many u hu
theorem putK_getK : putK q k (getK q k) = q := by
  have key : ∀ (α : Type) (xs : List α) (i : Nat) (d : α), xs.set i (xs.getD i d) = xs := by
    intro α xs i d
    apply List.ext_getElem?
    intro j
    by_cases h : i = j
    · subst h
      by_cases hl : i < xs.length
      · simp [hl]
      · rw [List.getElem?_eq_none (by simpa using hl), List.getElem?_eq_none (by simpa using hl)]
    · simp [List.getElem?_set_ne h]
  cases k <;> simp only [putK, getK, key]
theorem ext_get (w : Wf n v q) (wy : Wf n v y) (h : ∀ k, Ok n v k → getK q k = getK y k) : q = y := by
  have rows : ∀ (m : Nat) (a b : List Int), a.length = m → b.length = m → (∀ z, z < m → a.getD z 0 = b.getD z 0) → a = b := by
    intro m a b ha hb hz
    apply List.ext_getElem (by omega)
    intro i h1 h2
    have := hz i (by omega)
    simpa [List.getD_eq_getElem?_getD, h1, h2] using this
  refine Prod.ext ?_ (rows _ _ _ w.nx wy.nx fun i hi => h (.X i) hi)
  apply List.ext_getElem (by rw [w.len, wy.len])
  intro i h1 h2
  have hi : i < n := by rw [← w.len]; exact h1
  have e : q.1.getD i dN = y.1.getD i dN := by
    refine Prod.ext (rows v _ _ (w.row1 i hi) (wy.row1 i hi) fun z hz => h (.V i z) ⟨hi, hz⟩) (Prod.ext (rows v _ _ (w.row2 i hi) (wy.row2 i hi) fun z hz => h (.R i z) ⟨hi, hz⟩) (Prod.ext (h (.S i) hi) (h (.M i) hi)))
  simpa [List.getD_eq_getElem?_getD, h1, h2] using e
/-- y tells no less than q. -/
def Le (n v : Nat) (q y : SD) : Prop := ∀ k, Ok n v k → getK q k = 1 ∨ getK q k = getK y k
theorem Le.refl : Le n v q q := fun _ _ => .inr rfl
theorem Le.trans {a b c : SD} (h : Le n v a b) (h' : Le n v b c) : Le n v a c := fun k hk => by
  rcases h k hk with e | e
  · exact .inl e
  · rcases h' k hk with e' | e'
    · exact .inl (e.trans e')
    · exact .inr (e.trans e')
theorem Le.def {a b : SD} (h : Le n v a b) {k : Key} (hk : Ok n v k) {x : Int} (hx : getK a k = x) (h1 : x ≠ 1) : getK b k = x := by
  rcases h k hk with e | e
  · omega
  · omega
theorem Le.anti (w : Wf n v q) (wy : Wf n v y) (h : Le n v q y) (h' : Le n v y q) : q = y := ext_get w wy fun k hk => by
  rcases h k hk with e | e
  · rcases h' k hk with e' | e'
    · omega
    · exact e'.symm
  · exact e
/-- What it is to carry out a rule: from q (something has turned: ch; something is wrong: bd) to q'. -/
structure Op (n v : Nat) (ρ : SD → Prop) (q : SD) (ch bd : Bool) (q' : SD) (ch' bd' : Bool) : Prop where
  wf : Wf n v q'
  le : Le n v q q'
  bad : bd = true → bd' = true
  chg : ch = true → ch' = true
  same : ch' = false → q' = q
  rho : ch' = false → bd' = false → ρ q
  prog : ch' = true → ch = true ∨ ∃ k, Ok n v k ∧ getK q k = 1 ∧ getK q' k ≠ 1
  snd : ∀ y, Wf n v y → ρ y → Le n v q y → bd = false → Le n v q' y ∧ bd' = false
theorem Op.skip {ρ : SD → Prop} {ch bd : Bool} (w : Wf n v q) (h : ρ q) : Op n v ρ q ch bd q ch bd :=
  ⟨w, Le.refl, id, id, fun _ => rfl, fun _ _ => h, fun h => .inl h, fun _ _ _ hl hb => ⟨hl, hb⟩⟩
theorem Op.weak {ρ ρ' : SD → Prop} {ch bd ch' bd' : Bool} {q' : SD} (h : Op n v ρ q ch bd q' ch' bd') (h1 : ∀ y, Wf n v y → (ρ y ↔ ρ' y)) (w : Wf n v q) : Op n v ρ' q ch bd q' ch' bd' :=
  ⟨h.wf, h.le, h.bad, h.chg, h.same, fun a b => (h1 q w).1 (h.rho a b), h.prog, fun y wy hy => h.snd y wy ((h1 y wy).2 hy)⟩
/-- One more step; where nothing has turned so far it stands at the start. -/
theorem Op.ext {ρ ρ2 : SD → Prop} {ch bd ch1 bd1 ch2 bd2 : Bool} {q1 q2 : SD} (h : Op n v ρ q ch bd q1 ch1 bd1) (wf : Wf n v q2) (le : Le n v q1 q2) (bad : bd1 = true → bd2 = true) (chg : ch1 = true → ch2 = true) (same : ch2 = false → q2 = q1)
    (rho : q1 = q → ch2 = false → bd2 = false → ρ2 q) (prog : ch2 = true → ch1 = true ∨ ∃ k, Ok n v k ∧ getK q1 k = 1 ∧ getK q2 k ≠ 1) (snd : ∀ y, Wf n v y → ρ2 y → Le n v q1 y → Le n v q y → bd1 = false → Le n v q2 y ∧ bd2 = false) :
    Op n v (fun y => ρ y ∧ ρ2 y) q ch bd q2 ch2 bd2 := by
  have c1 : ch2 = false → ch1 = false := fun e => by cases hc : ch1 with
    | false => rfl
    | true => rw [chg hc] at e; cases e
  have b1 : bd2 = false → bd1 = false := fun e => by cases hc : bd1 with
    | false => rfl
    | true => rw [bad hc] at e; cases e
  refine ⟨wf, h.le.trans le, fun e => bad (h.bad e), fun e => chg (h.chg e), fun e => (same e).trans (h.same (c1 e)), fun e e' => ⟨h.rho (c1 e) (b1 e'), rho (h.same (c1 e)) e e'⟩, fun e => ?_, fun y wy hy hl hb => ?_⟩
  · cases hc : ch1 with
    | true =>
      refine (h.prog hc).imp id ?_
      rintro ⟨k, hk, e1, e2⟩
      refine ⟨k, hk, e1, ?_⟩
      rcases le k hk with e3 | e3
      · exact absurd e3 e2
      · rw [← e3]; exact e2
    | false =>
      have := h.same hc
      subst this
      rcases prog e with e | e
      · rw [hc] at e; cases e
      · exact .inr e
  · obtain ⟨hl1, hb1⟩ := h.snd y wy hy.1 hl hb
    exact snd y wy hy.2 hl1 hl hb1
theorem Op.comp {ρ ρ2 : SD → Prop} {ch bd ch1 bd1 ch2 bd2 : Bool} {q1 q2 : SD} (h : Op n v ρ q ch bd q1 ch1 bd1) (h2 : Op n v ρ2 q1 ch1 bd1 q2 ch2 bd2) : Op n v (fun y => ρ y ∧ ρ2 y) q ch bd q2 ch2 bd2 :=
  h.ext h2.wf h2.le h2.bad h2.chg h2.same (fun e a b => e ▸ h2.rho a b) h2.prog fun y wy hy hl _ hb => h2.snd y wy hy hl hb
/-- A value that is set. -/
def setQ (q : SD) (k : Key) (to : Int) (ch bd : Bool) : SD × Bool × Bool := if getK q k = to then (q, ch, bd) else if getK q k = 1 then (putK q k to, true, bd) else (q, ch, true)
theorem Op.set {ρ : SD → Prop} {ch bd : Bool} {to : Int} (w : Wf n v q) (hk : Ok n v k) (hto : to = 0 ∨ to = 2) (hm : ∀ u, k = .M u → to = 0) (h1 : getK q k = to → ρ q) (h2 : ∀ y, Wf n v y → ρ y → Le n v q y → getK y k = to) :
    Op n v ρ q ch bd (setQ q k to ch bd).1 (setQ q k to ch bd).2.1 (setQ q k to ch bd).2.2 := by
  unfold setQ
  by_cases e : getK q k = to
  · rw [if_pos e]; exact .skip w (h1 e)
  rw [if_neg e]
  by_cases e1 : getK q k = 1
  · rw [if_pos e1]
    have hg := getK_putK (x := to) w hk
    refine ⟨wf_put w hk (by omega) fun u hu => by have := hm u hu; omega, fun k' hk' => ?_, id, fun _ => rfl, fun h => (by cases h), fun h => (by cases h), fun _ => .inr ⟨k, hk, e1, ?_⟩, fun y wy hy hl hb => ⟨fun k' hk' => ?_, hb⟩⟩
    · by_cases ek : k' = k
      · subst ek; exact .inl e1
      · rw [hg, if_neg ek]; exact .inr rfl
    · show getK (putK q k to) k ≠ 1
      rw [hg, if_pos rfl]; omega
    · show getK (putK q k to) k' = 1 ∨ getK (putK q k to) k' = getK y k'
      rw [hg]
      by_cases ek : k' = k
      · subst ek; rw [if_pos rfl]; exact .inr (h2 y wy hy hl).symm
      · rw [if_neg ek]; exact hl k' hk'
  · rw [if_neg e1]
    refine ⟨w, Le.refl, fun _ => rfl, id, fun _ => rfl, fun _ h => (by cases h), fun h => .inl h, fun y wy hy hl hb => ?_⟩
    exact absurd (hl.def hk rfl e1) (by have := h2 y wy hy hl; omega)
/-- Something is wrong. -/
theorem Op.wrong {ρ : SD → Prop} {ch bd : Bool} (w : Wf n v q) (h2 : ∀ y, Wf n v y → ρ y → Le n v q y → False) : Op n v ρ q ch bd q ch true :=
  ⟨w, Le.refl, fun _ => rfl, id, fun _ => rfl, fun _ h => (by cases h), fun h => .inl h, fun y wy hy hl _ => (h2 y wy hy hl).elim⟩
/-- It was wrong before. -/
theorem Op.was {ρ : SD → Prop} {ch : Bool} (w : Wf n v q) : Op n v ρ q ch true q ch true :=
  ⟨w, Le.refl, id, id, fun _ => rfl, fun _ h => (by cases h), fun h => .inl h, fun y wy hy hl h => by cases h⟩
end
end Go.Proofs.Ytpfibofoeblapaa
