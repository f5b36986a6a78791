/- A small calculus for walking loaded Go code: slots as a function, operations one by one, drawn regions once and for all. -/
import Derived.WalkKit
import Derived.Below
import Derived.Orders
set_option linter.unusedVariables false
set_option linter.unusedSimpArgs false
namespace Go.Proofs.Ytpfibofoeblapaa
open Go Go.RowKit

/-! ### Slots -/
abbrev Sl := Nat → Value
def upd (s : Sl) (d : Nat) (v : Value) : Sl := fun t => bif Nat.beq t d then v else s t
def ev (s : Sl) : Operand → Value
  | .tmp t => s t
  | .const v => v
  | .global g => .pointer (some ⟨g, 0, none⟩)
  | .func f => .func (.func f) #[] #[]
structure Fr (n : Nat) (s : Sl) (a : Act) : Prop where
  d : a.defers = []
  z : a.tmps.size = n
  g : ∀ t, a.tmps.getD t undef = s t
theorem Fr.ev {n : Nat} {s : Sl} {a : Act} (h : Fr n s a) : a.eval = ev s := by
  funext x
  cases x <;> simp [Act.eval, Go.Proofs.Ytpfibofoeblapaa.ev, ← h.g]
def dput (s : Sl) : Option Tmp → Value → Sl
  | some d, v => upd s d v
  | none, _ => s
def dlt (n : Nat) : Option Tmp → Bool
  | some d => Nat.blt d n
  | none => true
theorem beq_dec (t d : Nat) : Nat.beq t d = decide (t = d) := by
  by_cases h : t = d
  · subst h; simp
  · rw [decide_eq_false h]; cases hb : Nat.beq t d with
    | false => rfl
    | true => exact absurd (Nat.eq_of_beq_eq_true hb) h
theorem Fr.put {n : Nat} {s : Sl} {a : Act} (h : Fr n s a) {d : Option Tmp} (hd : dlt n d = true) (v : Value) : Fr n (dput s d v) (a.put d v) := by
  cases d with
  | none => exact h
  | some d =>
    have hd' : d < a.tmps.size := by rw [h.z]; simpa [dlt, Nat.blt_eq] using hd
    refine ⟨h.d, by simp [Act.put, h.z], fun t => ?_⟩
    simp only [Act.put, dput, upd, beq_dec]
    by_cases e : t = d
    · subst e; simp [hd']
    · simp [e, Array.getElem?_setIfInBounds_ne (Ne.symm e), ← h.g]

/-! ### A list of operations, in the text's order -/
def wpL (P : Program) (ops : Array Oper) (Q : Exit → Act → World → Prop) : List Oper → Act → World → Prop
  | [], a, w => Q .normal a w
  | o :: rest, a, w => if Region.wanted o (yielded ops a.tmps) then o.wp P a w (wpL P ops Q rest) Q else wpL P ops Q rest (a.put o.dst undef) w
theorem wpOps_of_wpL {P : Program} {ops : Array Oper} {Q : Exit → Act → World → Prop} : ∀ (l : List Nat) (a : Act) (w : World),
    (∀ i ∈ l, i < ops.size) → wpL P ops Q (l.filterMap fun i => ops[i]?) a w → wpOps P ops Q l a w
  | [], a, w, _, h => by simpa [wpOps, wpL] using h
  | i :: rest, a, w, hl, h => by
    have hi : i < ops.size := hl i (by simp)
    have e : ops[i]? = some ops[i] := Array.getElem?_eq_getElem hi
    simp only [List.filterMap_cons, e, wpL] at h
    simp only [wpOps, e]
    have ih := fun a w => wpOps_of_wpL (P := P) (ops := ops) (Q := Q) rest a w (fun j hj => hl j (List.mem_cons_of_mem _ hj))
    split at h
    · rename_i hw
      rw [if_pos hw]
      exact .inl (Oper.wp_mono (fun a w => ih a w) h)
    · rename_i hw
      rw [if_neg hw]
      exact ih _ _ h
theorem range_filterMap_list {α : Type} : ∀ l : List α, (List.range l.length).filterMap (fun i => l[i]?) = l
  | [] => rfl
  | x :: l => by
    rw [List.length_cons, List.range_succ_eq_map, List.filterMap_cons]
    simp only [List.getElem?_cons_zero, List.filterMap_map]
    exact congrArg (x :: ·) (by simpa [Function.comp_def] using range_filterMap_list l)
theorem range_filterMap (ops : Array Oper) : (List.range ops.size).filterMap (fun i => ops[i]?) = ops.toList := by
  have := range_filterMap_list ops.toList
  simpa using this

/-- Operations one after the other; what follows is a fact on the slots and the world. -/
def RO (P : Program) (ops : Array Oper) (n : Nat) (l : List Oper) (s : Sl) (w : World) (K : Sl → World → Prop) : Prop :=
  ∀ a Q, Fr n s a → (∀ s' a' w', Fr n s' a' → K s' w' → Q .normal a' w') → wpL P ops Q l a w
def Ex (P : Program) (c : Code) (n : Nat) (s : Sl) (w : World) (Q : Exit → Sl → World → Prop) : Prop :=
  ∀ a, Fr n s a → c.wp P (fun e a' w' => ∃ s', Fr n s' a' ∧ Q e s' w') a w

section
variable {P : Program} {ops : Array Oper} {n : Nat} {s : Sl} {w : World} {K : Sl → World → Prop} {Q : Exit → Sl → World → Prop} {c x y z : Code}
theorem Ex.mono {Q' : Exit → Sl → World → Prop} (h : Ex P c n s w Q) (hq : ∀ e s w, Q e s w → Q' e s w) : Ex P c n s w Q' :=
  fun a ha => wp_mono (h a ha) fun e a w ⟨s', f, q⟩ => ⟨s', f, hq _ _ _ q⟩
theorem RO.mono {l : List Oper} {K' : Sl → World → Prop} (h : RO P ops n l s w K) (hk : ∀ s w, K s w → K' s w) : RO P ops n l s w K' :=
  fun a Q hf hQ => h a Q hf fun s' a' w' hf' hk' => hQ s' a' w' hf' (hk _ _ hk')
theorem RO.nil (h : K s w) : RO P ops n [] s w K := fun a Q hf hQ => hQ s a w hf h
theorem ex_region {id : Nat} (h : RO P ops n ops.toList s w (fun s w => Q .normal s w)) : Ex P (.region id ops false) n s w Q := by
  intro a ha
  refine wp_region (wpOps_of_wpL _ _ _ (by simp) ?_)
  rw [range_filterMap]
  exact h a _ ha fun s' a' w' hf hk => ⟨s', hf, hk⟩
def thenQ (z : Code) (P : Program) (n : Nat) (Q : Exit → Sl → World → Prop) : Exit → Sl → World → Prop
  | .normal, s, w => Ex P z n s w Q
  | e, s, w => Q e s w
theorem ex_seq (h : Ex P x n s w (thenQ z P n Q)) : Ex P (.seq x z) n s w Q := by
  intro a ha
  refine wp_seq (wp_mono (h a ha) ?_)
  rintro e a' w' ⟨s', hf, hq⟩
  cases e <;> first | exact ⟨s', hf, hq⟩ | exact hq a' hf
theorem nx (h : Ex P z n s w Q) : thenQ z P n Q .normal s w := h
theorem ex_reg {id : Nat} (h : RO P ops n ops.toList s w (fun s w => Ex P z n s w Q)) : Ex P (.seq (.region id ops false) z) n s w Q :=
  ex_seq (ex_region h)
theorem ex_skip (h : Q .normal s w) : Ex P .skip n s w Q := fun a ha => wp_skip ⟨s, ha, h⟩
theorem ex_skip_seq (h : Ex P z n s w Q) : Ex P (.seq .skip z) n s w Q := ex_seq (ex_skip h)
theorem ex_ret (h : Q .ret s w) : Ex P .ret n s w Q := fun a ha => wp_ret ⟨s, ha, h⟩
theorem ex_ret_seq (h : Q .ret s w) : Ex P (.seq .ret z) n s w Q := ex_seq (ex_ret h)
theorem ex_exit {id : Nat} (h : Q (.exit id) s w) : Ex P (.exit id) n s w Q := fun a ha => wp_exit ⟨s, ha, h⟩
theorem ex_exit_seq {id : Nat} (h : Q (.exit id) s w) : Ex P (.seq (.exit id) z) n s w Q := ex_seq (ex_exit h)
theorem ex_if {c : Operand} {b : Bool} (hc : ev s c = .bool b) (ht : b = true → Ex P x n s w Q) (hf : b = false → Ex P y n s w Q) : Ex P (.cond c x y) n s w Q := by
  intro a ha
  exact wp_cond_split (by rw [ha.ev]; exact hc) (fun h => ht h a ha) (fun h => hf h a ha)
theorem ex_if_t {c : Operand} {b : Bool} (hc : ev s c = .bool b) (hb : b = true) (h : Ex P x n s w Q) : Ex P (.cond c x y) n s w Q :=
  ex_if hc (fun _ => h) (fun h' => by rw [hb] at h'; cases h')
theorem ex_if_f {c : Operand} {b : Bool} (hc : ev s c = .bool b) (hb : b = false) (h : Ex P y n s w Q) : Ex P (.cond c x y) n s w Q :=
  ex_if hc (fun h' => by rw [hb] at h'; cases h') (fun _ => h)
def blkQ (id : Nat) (Q : Exit → Sl → World → Prop) : Exit → Sl → World → Prop
  | .exit id', s, w => if id' = id then Q .normal s w else Q (.exit id') s w
  | e, s, w => Q e s w
theorem ex_block {id : Nat} (h : Ex P c n s w (blkQ id Q)) : Ex P (.block id c) n s w Q := by
  intro a ha
  refine wp_block (wp_mono (h a ha) ?_)
  rintro e a' w' ⟨s', hf, hq⟩
  cases e with
  | exit id' =>
    simp only [blkQ] at hq
    simp only [Exit.inBlock]
    split at hq <;> rename_i he
    · rw [if_pos he]; exact ⟨s', hf, hq⟩
    · rw [if_neg he]; exact ⟨s', hf, hq⟩
  | _ => exact ⟨s', hf, hq⟩

/-- A round's end: on, out, or back from the whole function. -/
inductive Ctl (σ ρ : Type) where
  | go (s : σ)
  | out (s : σ)
  | ret (r : ρ)
def iter {σ ρ : Type} (body : σ → Option (Ctl σ ρ)) : Nat → σ → Option (Ctl σ ρ)
  | 0, _ => none
  | k + 1, s => (body s).bind fun
    | .go s' => iter body k s'
    | c => some c
def LQ {σ ρ : Type} (Inv : σ → Sl → World → Prop) (R : ρ → Sl → World → Prop) (id : Nat) : Ctl σ ρ → Exit → Sl → World → Prop
  | .go st, e, s, w => e = .normal ∧ Inv st s w
  | .out st, e, s, w => e = .exit id ∧ Inv st s w
  | .ret r, e, s, w => e = .ret ∧ R r s w
theorem ex_loop {σ ρ : Type} {body : σ → Option (Ctl σ ρ)} {Inv : σ → Sl → World → Prop} {R : ρ → Sl → World → Prop} {id : Nat}
    (hb : ∀ st c' s w, Inv st s w → body st = some c' → Ex P c n s w (LQ Inv R id c')) :
    ∀ fuel st res s w, Inv st s w → iter body fuel st = some res → Ex P (.loop c) n s w (LQ Inv R id res) := by
  intro fuel st res s w hi h a ha
  refine wp_loop_rounds fuel ?_
  induction fuel generalizing st s w a with
  | zero => simp [iter] at h
  | succ k ih =>
    simp only [iter, Option.bind_eq_some_iff] at h
    obtain ⟨c', hc, h⟩ := h
    rw [rounds_succ]
    refine wp_mono (hb st c' s w hi hc a ha) ?_
    rintro e a' w' ⟨s', hf, hq⟩
    cases c' with
    | go st' =>
      obtain ⟨rfl, hq⟩ := hq
      exact ih _ _ _ hq h _ hf
    | out st' =>
      obtain rfl := Option.some.inj h
      obtain ⟨rfl, hq⟩ := hq
      exact ⟨s', hf, rfl, hq⟩
    | ret r =>
      obtain rfl := Option.some.inj h
      obtain ⟨rfl, hq⟩ := hq
      exact ⟨s', hf, rfl, hq⟩
end
/-! ### what the slots are known to hold -/
def put : List (Nat × Value) → Sl → Sl
  | [], b => b
  | (t, v) :: l, b => upd (put l b) t v
def Has (s : Sl) : List (Nat × Value) → Prop
  | [] => True
  | (t, v) :: l => s t = v ∧ Has s l
theorem has_put {s : Sl} : ∀ {l : List (Nat × Value)}, Has s l → s = put l s
  | [], _ => rfl
  | (t, v) :: l, ⟨h1, h2⟩ => by
    have ih := has_put h2
    funext u
    simp only [put, upd, beq_dec]
    by_cases e : u = t
    · subst e; simp [h1]
    · simp only [e, decide_false, cond_false]; exact congrFun ih u
theorem bind_some {α β : Type} {x : Option α} {f : α → Option β} {r : β} (h : x.bind f = some r) : ∃ y, x = some y ∧ f y = some r := by
  cases x with
  | none => cases h
  | some y => exact ⟨y, rfl, h⟩
theorem ite_some {α : Type} {c : Prop} [Decidable c] {a b : Option α} {r : α} (h : (if c then a else b) = some r) : (c ∧ a = some r) ∨ (¬ c ∧ b = some r) := by
  split at h
  · exact .inl ⟨‹_›, h⟩
  · exact .inr ⟨‹_›, h⟩
/-- Only where c holds. -/
def grd {α : Type} (c : Prop) [Decidable c] (a : Option α) : Option α := if c then a else none
theorem grd_some {α : Type} {c : Prop} [Decidable c] {a : Option α} {r : α} (h : grd c a = some r) : c ∧ a = some r := by
  unfold grd at h
  split at h
  · exact ⟨‹_›, h⟩
  · cases h
theorem bf {b : Bool} (h : ¬ b = true) : b = false := by cases b <;> simp_all
theorem ntb {b : Bool} (h : ¬ b = true) : (!b) = true := by cases b <;> simp_all
theorem nfb {b : Bool} (h : b = true) : (!b) = false := by cases b <;> simp_all
section
variable {P : Program} {ops : Array Oper} {n : Nat} {s : Sl} {w : World} {Q : Exit → Sl → World → Prop} {c x y z : Code}
theorem blk_exit {id : Nat} (h : Q .normal s w) : blkQ id Q (.exit id) s w := by simp only [blkQ, if_true]; exact h
theorem blk_skip {id k : Nat} (hk : k ≠ id) (h : Q (.exit k) s w) : blkQ id Q (.exit k) s w := by simp only [blkQ, if_neg hk]; exact h
theorem blk_nx {id : Nat} (h : Q .normal s w) : blkQ id Q .normal s w := h
theorem tq_exit {k : Nat} (h : Q (.exit k) s w) : thenQ z P n Q (.exit k) s w := h
def joinQ (J : Sl → World → Prop) (Q : Exit → Sl → World → Prop) : Exit → Sl → World → Prop
  | .normal, s, w => J s w
  | e, s, w => Q e s w
theorem ex_join (J : Sl → World → Prop) (h : Ex P x n s w (joinQ J Q)) (k : ∀ s w, J s w → Q .normal s w) : Ex P x n s w Q :=
  h.mono fun e s w hq => by cases e <;> first | exact hq | exact k s w hq
theorem jn {J : Sl → World → Prop} (h : J s w) : joinQ J Q .normal s w := h
theorem lq_go {σ ρ : Type} {Inv : σ → Sl → World → Prop} {R : ρ → Sl → World → Prop} {id : Nat} {st : σ} (h : Inv st s w) : LQ Inv R id (.go st) .normal s w := ⟨rfl, h⟩
theorem lq_out {σ ρ : Type} {Inv : σ → Sl → World → Prop} {R : ρ → Sl → World → Prop} {id : Nat} {st : σ} (h : Inv st s w) : LQ Inv R id (.out st) (.exit id) s w := ⟨rfl, h⟩
theorem lq_ret {σ ρ : Type} {Inv : σ → Sl → World → Prop} {R : ρ → Sl → World → Prop} {id : Nat} {r : ρ} (h : R r s w) : LQ Inv R id (.ret r) .ret s w := ⟨rfl, h⟩
/-- A loop in its block. -/
theorem ex_lb {σ ρ : Type} {body : σ → Option (Ctl σ ρ)} (Inv : σ → Sl → World → Prop) (R : ρ → Sl → World → Prop) {id fuel : Nat} {st : σ} {res : Ctl σ ρ}
    (hl : iter body fuel st = some res) (hi : Inv st s w)
    (hb : ∀ st c' s w, Inv st s w → body st = some c' → Ex P c n s w (LQ Inv R id c'))
    (hq : match res with | .out st' => ∀ s w, Inv st' s w → Q .normal s w | .ret r => ∀ s w, R r s w → Q .ret s w | .go _ => True) : Ex P (.block id (.loop c)) n s w Q := by
  refine ex_block ((ex_loop hb fuel st res s w hi hl).mono ?_)
  intro e s' w' h
  cases res with
  | go st' =>
    exfalso
    have : ∀ fuel st, iter body fuel st = some (.go st') → False := by
      intro fuel
      induction fuel with
      | zero => intro st h; cases h
      | succ k ih =>
        intro st h
        simp only [iter, Option.bind_eq_some_iff] at h
        obtain ⟨c', _, h⟩ := h
        cases c' with
        | go s2 => exact ih _ h
        | out s2 => cases h
        | ret r => cases h
    exact this _ _ hl
  | out st' =>
    obtain ⟨rfl, h⟩ := h
    exact blk_exit (hq s' w' h)
  | ret r =>
    obtain ⟨rfl, h⟩ := h
    exact hq s' w' h
end
/-- A loop that is left at its end alone. -/
def loopO {σ : Type} (body : σ → Option (Ctl σ Empty)) (k : Nat) (st : σ) : Option σ := (iter body k st).bind fun | .out s => some s | _ => none
def loopR {σ ρ : Type} (body : σ → Option (Ctl σ ρ)) (k : Nat) (st : σ) : Option (ρ ⊕ σ) := (iter body k st).bind fun | .out s => some (.inr s) | .ret r => some (.inl r) | .go _ => none
section
variable {P : Program} {n : Nat} {s : Sl} {w : World} {Q : Exit → Sl → World → Prop} {c : Code}
theorem ex_lbo {σ : Type} {body : σ → Option (Ctl σ Empty)} {id k : Nat} {st st' : σ} (Inv : σ → Sl → World → Prop) (hl : loopO body k st = some st') (hi : Inv st s w)
    (hb : ∀ st c' s w, Inv st s w → body st = some c' → Ex P c n s w (LQ Inv (fun _ _ _ => True) id c')) (hq : ∀ s w, Inv st' s w → Q .normal s w) : Ex P (.block id (.loop c)) n s w Q := by
  obtain ⟨res, hl, h⟩ := bind_some hl
  refine ex_lb Inv _ hl hi hb ?_
  cases res with
  | go _ => exact trivial
  | out s' => obtain rfl := Option.some.inj h; exact hq
  | ret r => exact r.elim
theorem ex_lbr {σ ρ : Type} {body : σ → Option (Ctl σ ρ)} {id k : Nat} {st : σ} {res : ρ ⊕ σ} (Inv : σ → Sl → World → Prop) (R : ρ → Sl → World → Prop) (hl : loopR body k st = some res) (hi : Inv st s w)
    (hb : ∀ st c' s w, Inv st s w → body st = some c' → Ex P c n s w (LQ Inv R id c')) (hq : match res with | .inl r => ∀ s w, R r s w → Q .ret s w | .inr st' => ∀ s w, Inv st' s w → Q .normal s w) : Ex P (.block id (.loop c)) n s w Q := by
  obtain ⟨res', hl, h⟩ := bind_some hl
  refine ex_lb Inv R hl hi hb ?_
  cases res' with
  | go _ => exact trivial
  | out s' => obtain rfl := Option.some.inj h; exact hq
  | ret r => obtain rfl := Option.some.inj h; exact hq
end
/-- How many rounds a loop may take. -/
def fuel : Nat := 1099511627776
end Go.Proofs.Ytpfibofoeblapaa
