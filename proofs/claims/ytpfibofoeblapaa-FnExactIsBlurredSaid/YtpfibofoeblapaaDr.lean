/- A region whose operations may be carried out in several orders: one order is enough. -/
import Derived.Test.YtpfibofoeblapaaFw
set_option linter.unusedVariables false
set_option linter.unusedSimpArgs false
namespace Go.Proofs.Ytpfibofoeblapaa
open Go Go.RowKit

/-- All blocks but those of M are as they were. -/
structure Kp (M : Nat → Prop) (w w' : World) : Prop where
  size : w.heap.size ≤ w'.heap.size
  block : ∀ k, k < w.heap.size → ¬ M k → w'.heap[k]? = w.heap[k]?
theorem Kp.refl (M : Nat → Prop) (w : World) : Kp M w w := ⟨Nat.le_refl _, fun _ _ _ => rfl⟩
theorem Kp.trans {M : Nat → Prop} {a b c : World} (h : Kp M a b) (k : Kp M b c) : Kp M a c :=
  ⟨Nat.le_trans h.size k.size, fun i hi hm => (k.block i (Nat.lt_of_lt_of_le hi h.size) hm).trans (h.block i hi hm)⟩

/-- What an operation comes to, whatever follows. -/
def OpR (P : Program) (o : Oper) (s : Sl) (w : World) (R : Value → World → Prop) : Prop :=
  match (execOp (ev s) o).run P w with
  | .ok (.value v) w' => R v w'
  | .ok .skip w' => R undef w'
  | .ok (.enter f args) w' => Calls P f args w' fun e w'' => ∃ v, e = .returned v ∧ R v w''
  | _ => False
theorem OpR.wp {P : Program} {n : Nat} {o : Oper} {s : Sl} {w : World} {R : Value → World → Prop} (h : OpR P o s w R) {a : Act} {next : Act → World → Prop} {Q : Exit → Act → World → Prop}
    (ha : Fr n s a) (hn : ∀ v w', R v w' → next (a.put o.dst v) w') : o.wp P a w next Q := by
  unfold Oper.wp
  rw [ha.ev]
  unfold OpR at h
  split at h
  · rename_i e; rw [e]; exact hn _ _ h
  · rename_i e; rw [e]; exact hn _ _ h
  · rename_i e; rw [e]
    refine Calls.mono h ?_
    rintro e w'' ⟨v, rfl, hr⟩
    exact hn _ _ hr
  · exact h.elim
theorem OpR.mono {P : Program} {o : Oper} {s : Sl} {w : World} {R R' : Value → World → Prop} (h : OpR P o s w R) (hr : ∀ v w', R v w' → R' v w') : OpR P o s w R' := by
  unfold OpR at *
  split at h
  · exact hr _ _ h
  · exact hr _ _ h
  · exact Calls.mono h fun e w'' ⟨v, he, hh⟩ => ⟨v, he, hr _ _ hh⟩
  · exact h

/-! ### what is read -/
def tmpOf : Operand → List Tmp
  | .tmp t => [t]
  | _ => []
def looks (ops : Array Oper) (o : Oper) : List Tmp :=
  o.op.operands.toList.flatMap tmpOf ++ (match o.guard with | some (g, _) => ((ops[g]?).bind (·.dst)).toList | none => [])
def Oper.sel (o : Oper) : Bool := match o.op with | .select .. => true | _ => false
theorem ev_congr {s s' : Sl} {o : Oper} {ops : Array Oper} (h : ∀ t ∈ looks ops o, s t = s' t) : ∀ x ∈ o.op.operands, ev s x = ev s' x := by
  intro x hx
  cases x with
  | tmp t => exact h t (by unfold looks; exact List.mem_append.2 (.inl (List.mem_flatMap.2 ⟨.tmp t, by simpa using hx, by simp [tmpOf]⟩)))
  | _ => rfl
theorem exec_congr {s s' : Sl} {o : Oper} {ops : Array Oper} (hs : Oper.sel o = false) (h : ∀ t ∈ looks ops o, s t = s' t) : execOp (ev s) o = execOp (ev s') o :=
  execOp_congr o (fun cs b e => by simp [Oper.sel, e] at hs) (ev_congr h)
def yl (ops : Array Oper) (s : Sl) (j : Nat) : Option Bool :=
  match (ops[j]?).bind (·.dst) with
  | some d => (match s d with | .bool b => some b | _ => none)
  | none => none
theorem yl_eq {n : Nat} {s : Sl} {a : Act} {ops : Array Oper} (h : Fr n s a) : yielded ops a.tmps = yl ops s := by
  funext j
  unfold yielded yl
  cases hd : (ops[j]?).bind (·.dst) with
  | none => simp
  | some d =>
    simp only [Option.bind_some]
    rw [← h.g d, Array.getD_eq_getD_getElem?]
    cases hx : a.tmps[d]? with
    | none => simp [undef]
    | some x => cases x <;> simp
def want (ops : Array Oper) (o : Oper) (s : Sl) : Bool := Region.wanted o (yl ops s)
theorem want_congr {s s' : Sl} {o : Oper} {ops : Array Oper} (h : ∀ t ∈ looks ops o, s t = s' t) : want ops o s = want ops o s' := by
  unfold want Region.wanted
  cases hg : o.guard with
  | none => rfl
  | some g =>
    obtain ⟨j, b⟩ := g
    have : yl ops s j = yl ops s' j := by
      unfold yl
      cases hd : (ops[j]?).bind (·.dst) with
      | none => rfl
      | some d =>
        have := h d (by unfold looks; exact List.mem_append.2 (.inr (by simp [hg, hd])))
        simp only [this]
    simp only [this]

/-- An order; where several that make memory stand free, whichever comes first. -/
inductive Ord where
  | nil
  | op (i : Nat) (r : Ord)
  | alts (c : Ord)
  | br (i : Nat) (r c : Ord)
  | stop
def InAlt (i : Nat) (r : Ord) : Ord → Prop
  | .br j q c => (i = j ∧ r = q) ∨ InAlt i r c
  | _ => False
section
variable (P : Program) (ops : Array Oper) (n : Nat) (KK : Nat → World → World → Prop) (B : Nat → Nat → Bool) (hv : Nat → Bool) (K : Sl → World → Prop)
/-- One order, in which whatever only reads stands as early as it can. -/
inductive RT : Ord → Sl → World → Prop
  | nil {s : Sl} {w : World} (h : K s w) : RT .nil s w
  | lt {i : Nat} {σ : Ord} {o : Oper} {v : Value} {s : Sl} {w : World} (ho : ops[i]? = some o) (hs : Oper.sel o = false) (hd : dlt n o.dst = true) (hw : want ops o s = true)
      (hr : ∀ w', KK i w w' → (execOp (ev s) o).run P w' = .ok (.value v) w') (h : RT σ (dput s o.dst v) w) : RT (.op i σ) s w
  | sk {i : Nat} {σ : Ord} {o : Oper} {s : Sl} {w : World} (ho : ops[i]? = some o) (hs : Oper.sel o = false) (hd : dlt n o.dst = true) (hw : want ops o s = false)
      (h : RT σ (dput s o.dst undef) w) : RT (.op i σ) s w
  | hy {i : Nat} {σ : Ord} {o : Oper} {s : Sl} {w : World} {R : Value → World → Prop} (ho : ops[i]? = some o) (hs : Oper.sel o = false) (hh : hv i = true) (hd : dlt n o.dst = true)
      (hw : want ops o s = true) (hr : OpR P o s w R) (hk : ∀ v w', R v w' → ∀ k, B k i = false → B i k = false → KK k w w') (h : ∀ v w', R v w' → RT σ (dput s o.dst v) w') : RT (.op i σ) s w
  | alts {c : Ord} {s : Sl} {w : World} (h : RT c s w) : RT (.alts c) s w
  | stop {s : Sl} {w : World} : RT .stop s w
  | br {i : Nat} {σ c : Ord} {o : Oper} {s : Sl} {w : World} {R : Value → World → Prop} (ho : ops[i]? = some o) (hs : Oper.sel o = false) (hd : dlt n o.dst = true)
      (hw : want ops o s = true) (hr : OpR P o s w R) (hk : ∀ v w', R v w' → ∀ k, B k i = false → B i k = false → KK k w w') (h : ∀ v w', R v w' → RT σ (dput s o.dst v) w') (hc : RT c s w) : RT (.br i σ c) s w
end
theorem RT.pick {P : Program} {ops : Array Oper} {n : Nat} {KK : Nat → World → World → Prop} {B : Nat → Nat → Bool} {hv : Nat → Bool} {K : Sl → World → Prop} {i : Nat} {r : Ord} : ∀ {c : Ord} {s : Sl} {w : World}, RT P ops n KK B hv K c s w → InAlt i r c →
    ∃ o R, ops[i]? = some o ∧ Oper.sel o = false ∧ dlt n o.dst = true ∧ want ops o s = true ∧ OpR P o s w R ∧ (∀ v w', R v w' → ∀ k, B k i = false → B i k = false → KK k w w') ∧ ∀ v w', R v w' → RT P ops n KK B hv K r (dput s o.dst v) w' := by
  intro c s w h
  induction h with
  | br ho hs hd hw hr hk h hc ih ihc =>
    intro hi
    rcases hi with ⟨rfl, rfl⟩ | hi
    · exact ⟨_, _, ho, hs, hd, hw, hr, hk, h⟩
    · exact ihc hi
  | _ => intro hi; exact hi.elim

/-! ### views -/
def dstOf (ops : Array Oper) (i : Nat) : Option Tmp := (ops[i]?).bind (·.dst)
def vw (ops : Array Oper) (s0 : Sl) (vals : Nat → Value) (X : Nat → Bool) : Nat → Sl
  | 0, t => s0 t
  | k + 1, t => if X k = true ∧ dstOf ops k = some t then vals k else vw ops s0 vals X k t
section
variable {ops : Array Oper} {s0 : Sl} {vals vals' : Nat → Value} {X Y : Nat → Bool} {t : Tmp}
theorem vw_congr : ∀ m, (∀ i, i < m → dstOf ops i = some t → X i = Y i ∧ (X i = true → vals i = vals' i)) → vw ops s0 vals X m t = vw ops s0 vals' Y m t
  | 0, _ => rfl
  | k + 1, h => by
    have ih := vw_congr k fun i hi => h i (by omega)
    simp only [vw]
    by_cases hd : dstOf ops k = some t
    · obtain ⟨h1, h2⟩ := h k (by omega) hd
      by_cases hx : X k = true
      · rw [if_pos ⟨hx, hd⟩, if_pos ⟨h1 ▸ hx, hd⟩, h2 hx]
      · rw [if_neg (fun h => hx h.1), if_neg (fun h => hx (h1 ▸ h.1)), ih]
    · rw [if_neg (fun h => hd h.2), if_neg (fun h => hd h.2), ih]
theorem vw_last (j : Nat) : ∀ m, j < m → X j = true → dstOf ops j = some t → (∀ i, i < m → j < i → dstOf ops i = some t → X i = false) → vw ops s0 vals X m t = vals j
  | 0, h, _, _, _ => absurd h (by omega)
  | k + 1, h, hx, hd, hl => by
    simp only [vw]
    by_cases e : k = j
    · subst e; rw [if_pos ⟨hx, hd⟩]
    · rw [if_neg (fun hh => by have := hl k (by omega) (by omega) hh.2; rw [this] at hh; exact absurd hh.1 (by simp))]
      exact vw_last j k (by omega) hx hd fun i hi => hl i (by omega)
end

/-! ### what is asked of the order, once and for all -/
def bnd (e : Edge) : Bool := Region.binds .any e
/-- B i j: i comes before j in every order. -/
structure Fine (ops : Array Oper) (B : Nat → Nat → Bool) : Prop where
  small : ∀ j o e, ops[j]? = some o → e ∈ o.after.toList → bnd e = true → e.on < j
  close : ∀ (X : Nat → Bool) j o, ops[j]? = some o → (∀ k o', X k = true → ops[k]? = some o' → ∀ e ∈ o'.after.toList, bnd e = true → X e.on = true) →
    (∀ e ∈ o.after.toList, bnd e = true → X e.on = true) → ∀ i, B i j = true → X i = true
  ord : ∀ i j o t, ops[j]? = some o → i < ops.size → i ≠ j → dstOf ops i = some t → (o.dst = some t ∨ t ∈ looks ops o) → (i < j → B i j = true) ∧ (j < i → B j i = true)
/-- The order σ behind what is done (D), the heavy ones before it being H. -/
inductive Fit (ops : Array Oper) (B : Nat → Nat → Bool) (hv : Nat → Bool) : (Nat → Bool) → List Nat → Ord → Prop
  | nil {D : Nat → Bool} {H : List Nat} (h : ∀ i, i < ops.size → D i = true) : Fit ops B hv D H .nil
  | cons {D : Nat → Bool} {H : List Nat} {i : Nat} {σ : Ord} {o : Oper} (ho : ops[i]? = some o) (hn : D i = false) (he : ∀ e ∈ o.after.toList, bnd e = true → D e.on = true)
      (hb : ∀ k ∈ H, B k i = true) (h : Fit ops B hv (fun k => D k || k == i) (if hv i = true then i :: H else H) σ) : Fit ops B hv D H (.op i σ)
  | alts {D : Nat → Bool} {H : List Nat} {c : Ord} (hc : ∀ i o, ops[i]? = some o → D i = false → (∀ e ∈ o.after.toList, bnd e = true → D e.on = true) → ∃ r, InAlt i r c) (hne : ∃ i r, InAlt i r c)
      (h1 : ∀ i r, InAlt i r c → D i = false ∧ (∀ k ∈ H, B k i = true) ∧ ∀ o, ops[i]? = some o → ∀ e ∈ o.after.toList, bnd e = true → D e.on = true)
      (h : ∀ i r, InAlt i r c → Fit ops B hv (fun k => D k || k == i) H r) : Fit ops B hv D H (.alts c)
theorem Fit.later {ops : Array Oper} {B : Nat → Nat → Bool} {hv : Nat → Bool} {D : Nat → Bool} {H : List Nat} {σ : Ord} (h : Fit ops B hv D H σ) : ∀ i, i < ops.size → D i = false → ∀ k ∈ H, B k i = true := by
  induction h with
  | nil h => intro i hi hd; rw [h i hi] at hd; cases hd
  | cons ho hn he hb h ih =>
    rename_i D H j σ o
    intro i hi hd k hk
    by_cases e : i = j
    · subst e; exact hb k hk
    · exact ih i hi (by simp [hd, e]) k (by split <;> simp [hk])
  | alts hc hne h1 h ih =>
    rename_i D H c
    intro i hi hd k hk
    obtain ⟨j, r, hj⟩ := hne
    by_cases e : i = j
    · subst e; exact (h1 i r hj).2.1 k hk
    · exact ih j r hj i hi (by simp [hd, e]) k hk

section
variable {P : Program} {ops : Array Oper} {n : Nat} {KK : Nat → World → World → Prop} {hv : Nat → Bool} {K : Sl → World → Prop} {B : Nat → Nat → Bool} {s0 : Sl} {Q : Exit → Act → World → Prop}
abbrev inp (ops : Array Oper) (s0 : Sl) (vals : Nat → Value) (j : Nat) : Sl := vw ops s0 vals (fun k => decide (k < j)) ops.size
/-- What waits: its value is known, whenever it is carried out. -/
def Pend (P : Program) (ops : Array Oper) (n : Nat) (KK : Nat → World → World → Prop) (s0 : Sl) (vals : Nat → Value) (w : World) (i : Nat) : Prop :=
  ∃ o, ops[i]? = some o ∧ Oper.sel o = false ∧ dlt n o.dst = true ∧
    ((want ops o (inp ops s0 vals i) = true ∧ ∀ w', KK i w w' → (execOp (ev (inp ops s0 vals i)) o).run P w' = .ok (.value (vals i)) w') ∨
     (want ops o (inp ops s0 vals i) = false ∧ vals i = undef))
def Clo (ops : Array Oper) (X : Nat → Bool) : Prop := ∀ k o, X k = true → ops[k]? = some o → ∀ e ∈ o.after.toList, bnd e = true → X e.on = true
theorem Pend.mono (hKt : ∀ i a b c, KK i a b → KK i b c → KK i a c) {vals : Nat → Value} {w w' : World} {i : Nat} (h : Pend P ops n KK s0 vals w i) (hk : KK i w w') : Pend P ops n KK s0 vals w' i := by
  obtain ⟨o, ho, hs, hd, h⟩ := h
  refine ⟨o, ho, hs, hd, h.imp (fun ⟨a, b⟩ => ⟨a, fun w'' hk' => b w'' (hKt _ _ _ _ hk hk')⟩) id⟩
/-- What an operation reads, wherever it stands. -/
theorem reads_same (hf : Fine ops B) {X : Nat → Bool} {vals : Nat → Value} {j : Nat} {o : Oper} (ho : ops[j]? = some o) (hc : Clo ops X) (hp : ∀ e ∈ o.after.toList, bnd e = true → X e.on = true)
    (hj : X j = false) : ∀ t ∈ looks ops o, vw ops s0 vals X ops.size t = inp ops s0 vals j t := by
  intro t ht
  refine vw_congr _ fun i hi hd => ⟨?_, fun _ => rfl⟩
  by_cases e : i = j
  · subst e; simp [hj]
  · obtain ⟨h1, h2⟩ := hf.ord i j o t ho hi e hd (.inr ht)
    rcases Nat.lt_or_ge i j with hlt | hge
    · have := hf.close X j o ho hc hp i (h1 hlt)
      simp [this, hlt]
    · have hji : j < i := by omega
      have hx : X i = false := by
        cases hx : X i with
        | false => rfl
        | true =>
          have hoi : ∃ oi, ops[i]? = some oi := ⟨_, Array.getElem?_eq_getElem hi⟩
          obtain ⟨oi, hoi⟩ := hoi
          have := hf.close X i oi hoi hc (hc i oi hx hoi) j (h2 hji)
          rw [hj] at this; cases this
      simp [hx, hge]
theorem put_view (hf : Fine ops B) {X : Nat → Bool} {vals vals' : Nat → Value} {j : Nat} {o : Oper} (ho : ops[j]? = some o) (hc : Clo ops X) (hj : X j = false)
    (hv' : ∀ i, i ≠ j → vals' i = vals i) : vw ops s0 vals' (fun k => X k || k == j) ops.size = dput (vw ops s0 vals X ops.size) o.dst (vals' j) := by
  have hlt : j < ops.size := (Array.getElem?_eq_some_iff.1 ho).1
  have hdj : dstOf ops j = o.dst := by simp [dstOf, ho]
  funext t
  by_cases e : o.dst = some t
  · rw [e]
    simp only [dput, upd, beq_dec, decide_true, cond_true]
    refine vw_last j _ hlt (by simp) (hdj.trans e) fun i hi hji hd => ?_
    have h2 := (hf.ord i j o t ho hi (by omega) hd (.inl e)).2 hji
    have hx : X i = false := by
      cases hx : X i with
      | false => rfl
      | true =>
        obtain ⟨oi, hoi⟩ : ∃ oi, ops[i]? = some oi := ⟨_, Array.getElem?_eq_getElem hi⟩
        have := hf.close X i oi hoi hc (hc i oi hx hoi) j h2
        rw [hj] at this; cases this
    simp [hx]; omega
  · have : dput (vw ops s0 vals X ops.size) o.dst (vals' j) t = vw ops s0 vals X ops.size t := by
      cases hd : o.dst with
      | none => rfl
      | some d =>
        have : t ≠ d := fun h => e (by rw [hd, h])
        simp [dput, upd, beq_dec, this]
    rw [this]
    refine vw_congr _ fun i hi hd => ?_
    have hij : i ≠ j := fun h => e (by rw [← hdj, ← h, hd])
    simp [hij, hv' i hij]
theorem inp_vals (hf : Fine ops B) {D : Nat → Bool} {vals vals' : Nat → Value} {j : Nat} {o : Oper} (ho : ops[j]? = some o) (hc : Clo ops D) (hj : D j = true)
    (hv' : ∀ k, D k = true → vals' k = vals k) : ∀ t ∈ looks ops o, inp ops s0 vals j t = inp ops s0 vals' j t := by
  intro t ht
  refine vw_congr _ fun i hi hd => ⟨rfl, fun hx => ?_⟩
  simp only [decide_eq_true_eq] at hx
  exact (hv' i (hf.close D j o ho hc (hc j o hj ho) i ((hf.ord i j o t ho hi (by omega) hd (.inr ht)).1 hx))).symm
theorem Pend.vals (hf : Fine ops B) {D : Nat → Bool} {vals vals' : Nat → Value} {w : World} {j : Nat} (h : Pend P ops n KK s0 vals w j) (hc : Clo ops D) (hj : D j = true)
    (hv' : ∀ k, D k = true → vals' k = vals k) : Pend P ops n KK s0 vals' w j := by
  obtain ⟨o, ho, hs, hd, h⟩ := h
  have hi := inp_vals (s0 := s0) hf ho hc hj hv'
  refine ⟨o, ho, hs, hd, ?_⟩
  rw [want_congr hi, exec_congr hs hi] at h
  rw [hv' j hj]
  exact h
theorem Clo.add {D : Nat → Bool} {i : Nat} {o : Oper} (hc : Clo ops D) (ho : ops[i]? = some o) (he : ∀ e ∈ o.after.toList, bnd e = true → D e.on = true) : Clo ops (fun k => D k || k == i) := by
  intro k ok hk hok e hee hb
  simp only [Bool.or_eq_true, beq_iff_eq] at hk ⊢
  rcases hk with hk | rfl
  · exact .inl (hc k ok hk hok e hee hb)
  · rw [ho] at hok
    obtain rfl := Option.some.inj hok
    exact .inl (he e hee hb)
inductive Head (P : Program) (ops : Array Oper) (n : Nat) (KK : Nat → World → World → Prop) (B : Nat → Nat → Bool) (hv : Nat → Bool) (K : Sl → World → Prop) : Ord → Sl → World → Prop
  | nil {s : Sl} {w : World} (h : K s w) : Head P ops n KK B hv K .nil s w
  | hy {i : Nat} {σ : Ord} {o : Oper} {s : Sl} {w : World} {R : Value → World → Prop} (ho : ops[i]? = some o) (hs : Oper.sel o = false) (hh : hv i = true) (hd : dlt n o.dst = true)
      (hw : want ops o s = true) (hr : OpR P o s w R) (hk : ∀ v w', R v w' → ∀ k, B k i = false → B i k = false → KK k w w') (h : ∀ v w', R v w' → RT P ops n KK B hv K σ (dput s o.dst v) w') : Head P ops n KK B hv K (.op i σ) s w
  | alts {c : Ord} {s : Sl} {w : World} (h : RT P ops n KK B hv K c s w) : Head P ops n KK B hv K (.alts c) s w
theorem Head.rt {σ : Ord} {s : Sl} {w : World} (h : Head P ops n KK B hv K σ s w) : RT P ops n KK B hv K σ s w := by
  cases h with
  | nil h => exact .nil h
  | hy ho hs hh hd hw hr hk h => exact .hy ho hs hh hd hw hr hk h
  | alts h => exact .alts h
/-- All that only reads, up to the next heavy one, waits. -/
theorem advance (hf : Fine ops B) {σ : Ord} {s : Sl} {w : World} (h : RT P ops n KK B hv K σ s w) : ∀ (D : Nat → Bool) (H : List Nat) (vals : Nat → Value),
    Fit ops B hv D H σ → Clo ops D → s = vw ops s0 vals D ops.size →
    ∃ D' H' σ' vals' s', Head P ops n KK B hv K σ' s' w ∧ Fit ops B hv D' H' σ' ∧ Clo ops D' ∧ (∀ i, D i = true → D' i = true) ∧ s' = vw ops s0 vals' D' ops.size ∧
      (∀ i, D i = true → vals' i = vals i) ∧ (∀ i, D' i = true → D i = true ∨ (i < ops.size ∧ Pend P ops n KK s0 vals' w i)) := by
  induction h with
  | alts h => exact fun D H vals hF hC hs => ⟨D, H, _, vals, _, .alts h, hF, hC, fun _ h => h, hs, fun _ _ => rfl, fun _ h => .inl h⟩
  | stop => intro D H vals hF; cases hF
  | br => intro D H vals hF; cases hF
  | nil h => exact fun D H vals hF hC hs => ⟨D, H, .nil, vals, _, .nil h, hF, hC, fun _ h => h, hs, fun _ _ => rfl, fun _ h => .inl h⟩
  | hy ho hs hh hd hw hr hk h ih => exact fun D H vals hF hC hs' => ⟨D, H, _, vals, _, .hy ho hs hh hd hw hr hk h, hF, hC, fun _ h => h, hs', fun _ _ => rfl, fun _ h => .inl h⟩
  | lt ho hs hd hw hr h ih =>
    rename_i i σ o v s w
    intro D H vals hF hC hs'
    cases hF with
    | cons ho' hn he hb hF =>
      rw [ho] at ho'
      obtain rfl := Option.some.inj ho'
      have hlt : i < ops.size := (Array.getElem?_eq_some_iff.1 ho).1
      let vals1 : Nat → Value := fun k => if k = i then v else vals k
      have hv1 : ∀ k, k ≠ i → vals1 k = vals k := fun k hk => if_neg hk
      have hvi : vals1 i = v := if_pos rfl
      have hDi : ∀ k, D k = true → vals1 k = vals k := fun k hk => hv1 k (fun e => by rw [e, hn] at hk; cases hk)
      have hC' := hC.add ho he
      have hpv := put_view (s0 := s0) hf ho hC hn hv1
      rw [hvi, ← hs'] at hpv
      obtain ⟨D', H', σ', vals', s', h1, h2, h3, h4, h5, h6, h7⟩ := ih _ _ vals1 hF hC' hpv.symm
      have hsub : ∀ k, D k = true → D' k = true := fun k hk => h4 k (by simp [hk])
      refine ⟨D', H', σ', vals', s', h1, h2, h3, hsub, h5, fun k hk => (h6 k (by simp [hk])).trans (hDi k hk), fun k hk => ?_⟩
      rcases h7 k hk with h7 | h7
      · simp only [Bool.or_eq_true, beq_iff_eq] at h7
        rcases h7 with h7 | rfl
        · exact .inl h7
        · refine .inr ⟨hlt, ?_⟩
          have hrs := reads_same (s0 := s0) (vals := vals1) hf ho hC he hn
          have hs1 : ∀ t, vw ops s0 vals1 D ops.size t = s t := fun t => by
            rw [hs']; exact vw_congr _ fun k _ _ => ⟨rfl, fun hx => hDi k hx⟩
          have hin : ∀ t ∈ looks ops o, s t = inp ops s0 vals1 k t := fun t ht => (hs1 t).symm.trans (hrs t ht)
          have hp : Pend P ops n KK s0 vals1 w k := ⟨o, ho, hs, hd, .inl ⟨by rw [← want_congr hin]; exact hw, fun w' hk' => by rw [← exec_congr hs hin, hvi]; exact hr w' hk'⟩⟩
          exact hp.vals hf hC' (by simp) h6
      · exact .inr h7
  | sk ho hs hd hw h ih =>
    rename_i i σ o s w
    intro D H vals hF hC hs'
    cases hF with
    | cons ho' hn he hb hF =>
      rw [ho] at ho'
      obtain rfl := Option.some.inj ho'
      have hlt : i < ops.size := (Array.getElem?_eq_some_iff.1 ho).1
      let vals1 : Nat → Value := fun k => if k = i then undef else vals k
      have hv1 : ∀ k, k ≠ i → vals1 k = vals k := fun k hk => if_neg hk
      have hvi : vals1 i = undef := if_pos rfl
      have hDi : ∀ k, D k = true → vals1 k = vals k := fun k hk => hv1 k (fun e => by rw [e, hn] at hk; cases hk)
      have hC' := hC.add ho he
      have hpv := put_view (s0 := s0) hf ho hC hn hv1
      rw [hvi, ← hs'] at hpv
      obtain ⟨D', H', σ', vals', s', h1, h2, h3, h4, h5, h6, h7⟩ := ih _ _ vals1 hF hC' hpv.symm
      have hsub : ∀ k, D k = true → D' k = true := fun k hk => h4 k (by simp [hk])
      refine ⟨D', H', σ', vals', s', h1, h2, h3, hsub, h5, fun k hk => (h6 k (by simp [hk])).trans (hDi k hk), fun k hk => ?_⟩
      rcases h7 k hk with h7 | h7
      · simp only [Bool.or_eq_true, beq_iff_eq] at h7
        rcases h7 with h7 | rfl
        · exact .inl h7
        · refine .inr ⟨hlt, ?_⟩
          have hrs := reads_same (s0 := s0) (vals := vals1) hf ho hC he hn
          have hs1 : ∀ t, vw ops s0 vals1 D ops.size t = s t := fun t => by
            rw [hs']; exact vw_congr _ fun k _ _ => ⟨rfl, fun hx => hDi k hx⟩
          have hin : ∀ t ∈ looks ops o, s t = inp ops s0 vals1 k t := fun t ht => (hs1 t).symm.trans (hrs t ht)
          have hp : Pend P ops n KK s0 vals1 w k := ⟨o, ho, hs, hd, .inr ⟨by rw [← want_congr hin]; exact hw, hvi⟩⟩
          exact hp.vals hf hC' (by simp) h6
      · exact .inr h7
def lis (listed : Array Bool) (i : Nat) : Bool := listed.getD i false
theorem lis_set {listed : Array Bool} {i : Nat} (h : i < listed.size) : lis (listed.setIfInBounds i true) = fun k => lis listed k || k == i := by
  funext k
  by_cases e : k = i
  · subst e; simp [lis, h]
  · simp [lis, e, Array.getElem?_setIfInBounds_ne (Ne.symm e)]
def left (listed : Array Bool) : Nat → Nat
  | 0 => 0
  | k + 1 => (if lis listed k then 0 else 1) + left listed k
theorem left_zero {listed : Array Bool} : ∀ m, left listed m = 0 → ∀ i, i < m → lis listed i = true
  | 0, _, _, h => absurd h (by omega)
  | k + 1, h, i, hi => by
    simp only [left] at h
    by_cases e : i = k
    · subst e
      cases hb : lis listed i with
      | true => rfl
      | false => simp [hb] at h
    · exact left_zero k (by omega) i (by omega)
theorem left_set {listed : Array Bool} {i : Nat} (hs : i < listed.size) (hl : lis listed i = false) : ∀ m, left (listed.setIfInBounds i true) m + (if i < m then 1 else 0) = left listed m
  | 0 => by simp [left]
  | k + 1 => by
    have ih := left_set hs hl k
    simp only [left, lis_set hs]
    by_cases e : k = i
    · subst e; simp [hl] at *; omega
    · have : (k == i) = false := by simp [e]
      simp only [this, Bool.or_false]
      generalize (if lis listed k = true then 0 else 1) = q
      by_cases h2 : i < k
      · rw [if_pos h2] at ih; rw [if_pos (by omega)]; omega
      · rw [if_neg h2] at ih; rw [if_neg (by omega)]; omega
theorem ready_mem {listed : Array Bool} {i : Nat} (h : i ∈ Region.ready .any ops listed) (hz : listed.size = ops.size) :
    ∃ o, ops[i]? = some o ∧ lis listed i = false ∧ ∀ e ∈ o.after.toList, bnd e = true → lis listed e.on = true := by
  unfold Region.ready at h
  simp only [List.mem_filter, List.mem_range, Bool.and_eq_true, Bool.not_eq_true'] at h
  obtain ⟨hi, hl, ha⟩ := h
  refine ⟨ops[i], Array.getElem?_eq_getElem hi, ?_, ?_⟩
  · simpa [lis, hz, hi] using hl
  · rw [Array.getElem?_eq_getElem hi] at ha
    simp only [Option.map_some, Option.getD_some, Array.all_eq_true_iff_forall_mem] at ha
    intro e he hb
    have := ha e (by simpa using he)
    simpa [bnd, lis, show Region.binds .any e = true from hb] using this
theorem ready_some {listed : Array Bool} (hf : Fine ops B) (hz : listed.size = ops.size) (hl : ∃ i, i < ops.size ∧ lis listed i = false) : Region.ready .any ops listed ≠ [] := by
  obtain ⟨i, hi, hl⟩ := hl
  induction i using Nat.strongRecOn with
  | _ i ih =>
    by_cases h : ∀ e ∈ (ops[i]).after.toList, bnd e = true → lis listed e.on = true
    · intro hr
      have : i ∈ Region.ready .any ops listed := by
        unfold Region.ready
        simp only [List.mem_filter, List.mem_range, Bool.and_eq_true, Bool.not_eq_true']
        refine ⟨hi, by simpa [lis, hz, hi] using hl, ?_⟩
        rw [Array.getElem?_eq_getElem hi]
        simp only [Option.map_some, Option.getD_some, Array.all_eq_true_iff_forall_mem]
        intro e he
        cases hb : Region.binds .any e with
        | false => simp
        | true => simpa [lis] using h e (by simpa using he) hb
      rw [hr] at this; cases this
    · have : ∃ e ∈ (ops[i]).after.toList, bnd e = true ∧ lis listed e.on = false := by
        refine Classical.byContradiction fun hn => h fun e he hb => ?_
        cases hh : lis listed e.on with
        | true => rfl
        | false => exact absurd ⟨e, he, hb, hh⟩ hn
      obtain ⟨e, he, hb, hh⟩ := this
      have hlt := hf.small i _ e (Array.getElem?_eq_getElem hi) he hb
      exact ih e.on hlt (by omega) hh
theorem run_any (hKr : ∀ i w, KK i w w) (hKt : ∀ i a b c, KK i a b → KK i b c → KK i a c) (hf : Fine ops B) (hQ : ∀ s a w, Fr n s a → K s w → Q .normal a w) : ∀ (fuel : Nat) (listed : Array Bool) (a : Act) (w : World) (D : Nat → Bool) (H : List Nat) (σ : Ord) (vals : Nat → Value),
    listed.size = ops.size → Clo ops (lis listed) → (∀ i, lis listed i = true → D i = true) → Clo ops D → Fr n (vw ops s0 vals (lis listed) ops.size) a →
    (∀ i, D i = true → lis listed i = true ∨ Pend P ops n KK s0 vals w i) → Fit ops B hv D H σ → RT P ops n KK B hv K σ (vw ops s0 vals D ops.size) w →
    left listed ops.size ≤ fuel → wpAny P .any ops Q fuel listed a w := by
  intro fuel
  induction fuel with
  | zero =>
    intro listed a w D H σ vals hz hL hLD hD ha hp hF hR hfu
    have hall := left_zero _ (Nat.le_zero.1 hfu)
    obtain ⟨D', H', σ', vals', s', h1, h2, h3, h4, h5, h6, h7⟩ := advance hf hR D H vals hF hD rfl
    have hn : Region.ready .any ops listed = [] := by
      unfold Region.ready
      rw [List.filter_eq_nil_iff]
      intro i hi
      have hi' : i < ops.size := by simpa using hi
      have := hall i hi'
      simp [lis, hz, hi'] at this
      simp [hz, hi', this]
    refine ⟨hn, ?_⟩
    cases h1 with
    | hy ho =>
      cases h2 with
      | cons ho' hn' he hb hF' =>
        have hi' : _ < ops.size := (Array.getElem?_eq_some_iff.1 ho').1
        rw [h4 _ (hLD _ (hall _ hi'))] at hn'; cases hn'
    | alts hA =>
      cases h2 with
      | alts hc hne h1' hF' =>
        obtain ⟨j, r, hj⟩ := hne
        obtain ⟨o, R, ho, _⟩ := hA.pick hj
        have hi' : j < ops.size := (Array.getElem?_eq_some_iff.1 ho).1
        have hn' := (h1' j r hj).1
        rw [h4 _ (hLD _ (hall _ hi'))] at hn'; cases hn'
    | nil hK =>
      refine hQ _ a w ?_ hK
      have : vw ops s0 vals (lis listed) ops.size = s' := by
        rw [h5]; funext t
        exact vw_congr _ fun i hi _ => ⟨by rw [hall i hi, h4 _ (hLD _ (hall i hi))], fun _ => (h6 _ (hLD _ (hall i hi))).symm⟩
      rw [← this]; exact ha
  | succ fuel ih =>
    intro listed a w D H σ vals hz hL hLD hD ha hp hF hR hfu
    obtain ⟨D', H', σ', vals', s', h1, h2, h3, h4, h5, h6, h7⟩ := advance hf hR D H vals hF hD rfl
    have hav : vw ops s0 vals (lis listed) ops.size = vw ops s0 vals' (lis listed) ops.size := by
      funext t; exact vw_congr _ fun i hi _ => ⟨rfl, fun hx => (h6 i (hLD i hx)).symm⟩
    rw [hav] at ha
    have hp' : ∀ i, D' i = true → lis listed i = true ∨ Pend P ops n KK s0 vals' w i := by
      intro i hi
      rcases h7 i hi with h | h
      · exact (hp i h).imp id fun hq => hq.vals hf hD h h6
      · exact .inr h.2
    refine ⟨fun hn => ?_, fun i hi => ?_⟩
    · have hall : ∀ i, i < ops.size → lis listed i = true := by
        intro i hi
        cases hb : lis listed i with
        | true => rfl
        | false => exact absurd hn (ready_some hf hz ⟨i, hi, hb⟩)
      cases h1 with
      | hy ho =>
        cases h2 with
        | cons ho' hn' he hb hF' =>
          have hi' : _ < ops.size := (Array.getElem?_eq_some_iff.1 ho').1
          rw [h4 _ (hLD _ (hall _ hi'))] at hn'; cases hn'
      | alts hA =>
        cases h2 with
        | alts hc hne h1' hF' =>
          obtain ⟨j, r, hj⟩ := hne
          obtain ⟨o, R, ho, _⟩ := hA.pick hj
          have hi' : j < ops.size := (Array.getElem?_eq_some_iff.1 ho).1
          have hn' := (h1' j r hj).1
          rw [h4 _ (hLD _ (hall _ hi'))] at hn'; cases hn'
      | nil hK =>
        refine hQ _ a w ?_ hK
        have : vw ops s0 vals' (lis listed) ops.size = s' := by
          rw [h5]; funext t
          exact vw_congr _ fun i hi _ => ⟨by rw [hall i hi, h4 _ (hLD _ (hall i hi))], fun _ => rfl⟩
        rw [← this]; exact ha
    · obtain ⟨o, ho, hli, hpre⟩ := ready_mem hi hz
      have hlt : i < ops.size := (Array.getElem?_eq_some_iff.1 ho).1
      have hrL := reads_same (s0 := s0) (vals := vals') hf ho hL hpre hli
      have hzs : (listed.setIfInBounds i true).size = ops.size := by simp [hz]
      have hset := lis_set (listed := listed) (i := i) (by omega)
      have hL' : Clo ops (lis (listed.setIfInBounds i true)) := by rw [hset]; exact hL.add ho hpre
      have hleft : left (listed.setIfInBounds i true) ops.size ≤ fuel := by
        have := left_set (listed := listed) (i := i) (by omega) hli ops.size
        rw [if_pos hlt] at this; omega
      unfold wpOp
      rw [ho]
      simp only
      rw [yl_eq ha]
      show (if want ops o (vw ops s0 vals' (lis listed) ops.size) = true then _ else _)
      cases hDi : D' i with
      | true =>
        rcases hp' i hDi with h | ⟨o', ho', hs, hd, hpend⟩
        · rw [hli] at h; cases h
        rw [ho] at ho'
        obtain rfl := Option.some.inj ho'
        rw [want_congr hrL]
        have hnext : Fr n (vw ops s0 vals' (lis (listed.setIfInBounds i true)) ops.size) (a.put o.dst (vals' i)) := by
          rw [hset, put_view (s0 := s0) hf ho hL hli (fun _ _ => rfl)]
          exact ha.put hd _
        have hgo : wpAny P .any ops Q fuel (listed.setIfInBounds i true) (a.put o.dst (vals' i)) w := by
          refine ih _ _ w D' H' σ' vals' hzs hL' (fun k hk => ?_) h3 hnext (fun k hk => ?_) h2 (h5 ▸ h1.rt) hleft
          · rw [hset] at hk
            simp only [Bool.or_eq_true, beq_iff_eq] at hk
            rcases hk with hk | rfl
            · exact h4 k (hLD k hk)
            · exact hDi
          · rcases hp' k hk with h | h
            · exact .inl (by rw [hset]; simp [h])
            · exact .inr h
        rcases hpend with ⟨hw, hr⟩ | ⟨hw, hu⟩
        · rw [if_pos hw]
          refine .inl ?_
          unfold Oper.wp
          rw [ha.ev, exec_congr hs hrL, hr w (hKr _ _)]
          exact hgo
        · rw [if_neg (by rw [hw]; simp)]
          rw [hu] at hgo
          exact hgo
      | false =>
        have step : ∀ (r : Ord) (H2 : List Nat) (R : Value → World → Prop), Oper.sel o = false → dlt n o.dst = true → want ops o s' = true → OpR P o s' w R → (∀ v w', R v w' → ∀ k, B k i = false → B i k = false → KK k w w') →
            (∀ v w', R v w' → RT P ops n KK B hv K r (dput s' o.dst v) w') → Fit ops B hv (fun k => D' k || k == i) H2 r → (∀ e ∈ o.after.toList, bnd e = true → D' e.on = true) →
            (if want ops o (vw ops s0 vals' (lis listed) ops.size) = true then o.wp P a w (wpAny P .any ops Q fuel (listed.setIfInBounds i true)) Q ∨ (Oper.asks P o a w ∧ LetsOut Q) else wpAny P .any ops Q fuel (listed.setIfInBounds i true) (a.put o.dst undef) w) := by
          intro r H2 R hs hd hw hr hk hrest hF'' he''
          have hrD := reads_same (s0 := s0) (vals := vals') hf ho h3 he'' hDi
          have hsame : ∀ t ∈ looks ops o, s' t = vw ops s0 vals' (lis listed) ops.size t := fun t ht => by rw [h5]; exact (hrD t ht).trans (hrL t ht).symm
          rw [← want_congr hsame, if_pos hw]
          refine .inl ?_
          have hr' : OpR P o (vw ops s0 vals' (lis listed) ops.size) w R := by
            unfold OpR at hr ⊢
            rw [← exec_congr hs hsame]; exact hr
          refine hr'.wp ha fun v w' hv' => ?_
          let vals2 : Nat → Value := fun k => if k = i then v else vals' k
          have hv2 : ∀ k, k ≠ i → vals2 k = vals' k := fun k hk => if_neg hk
          have hvi : vals2 i = v := if_pos rfl
          have hDv : ∀ k, D' k = true → vals2 k = vals' k := fun k hk => hv2 k (fun e => by rw [e, hDi] at hk; cases hk)
          have hpL := put_view (s0 := s0) hf ho hL hli hv2
          have hpD := put_view (s0 := s0) hf ho h3 hDi hv2
          rw [hvi] at hpL hpD
          refine ih _ _ w' (fun k => D' k || k == i) _ r vals2 hzs hL' (fun k hk' => ?_) (h3.add ho he'') ?_ (fun k hk' => ?_) hF'' ?_ hleft
          · rw [hset] at hk'
            simp only [Bool.or_eq_true, beq_iff_eq] at hk' ⊢
            exact hk'.imp (fun h => h4 k (hLD k h)) id
          · rw [hset, hpL]; exact ha.put hd _
          · simp only [Bool.or_eq_true, beq_iff_eq] at hk'
            rcases hk' with hk' | rfl
            · rcases hp' k hk' with h | h
              · exact .inl (by rw [hset]; simp [h])
              · by_cases hlk : lis listed k = true
                · exact .inl (by rw [hset]; simp [hlk])
                · refine .inr ((h.mono hKt (hk v w' hv' k ?_ ?_)).vals hf h3 hk' hDv)
                  · cases hB : B k i with
                    | false => rfl
                    | true => exact absurd (hf.close _ i o ho hL hpre k hB) hlk
                  · cases hB : B i k with
                    | false => rfl
                    | true =>
                      obtain ⟨ok, hok, _⟩ := h
                      have := hf.close D' k ok hok h3 (h3 k ok hk' hok) i hB
                      rw [hDi] at this; cases this
            · exact .inl (by rw [hset]; simp)
          · rw [hpD, ← h5]; exact hrest v w' hv'
        cases h1 with
        | nil =>
          cases h2 with
          | nil hall => rw [hall i hlt] at hDi; cases hDi
        | alts hA =>
          cases h2 with
          | alts hc hne h1' hF' =>
            obtain ⟨r, hj⟩ := hc i o ho hDi fun e he hb => h4 _ (hLD _ (hpre e he hb))
            obtain ⟨o', R, ho', hs, hd, hw, hr, hk, hrest⟩ := hA.pick hj
            rw [ho] at ho'
            obtain rfl := Option.some.inj ho'
            exact step r _ R hs hd hw hr hk hrest (hF' i r hj) ((h1' i r hj).2.2 o ho)
        | hy ho' hs hh hd hw hr hk hrest =>
          rename_i j σ'' o' R
          cases h2 with
          | cons ho'' hn'' he'' hb'' hF'' =>
            have hij : i = j := by
              refine Classical.byContradiction fun hne => ?_
              rw [if_pos hh] at hF''
              have hB := hF''.later i hlt (by simp [hDi, hne]) j (by simp)
              have := hf.close _ i o ho hL hpre j hB
              rw [h4 j (hLD j this)] at hn''; cases hn''
            subst hij
            rw [ho] at ho' ho''
            obtain rfl := Option.some.inj ho'
            obtain rfl := Option.some.inj ho''
            exact step σ'' _ R hs hd hw hr hk hrest hF'' he''
end
/-- A region that draws its order: one order will do. -/
theorem ex_draw {P : Program} {ops : Array Oper} {n : Nat} {KK : Nat → World → World → Prop} (hKr : ∀ i w, KK i w w) (hKt : ∀ i a b c, KK i a b → KK i b c → KK i a c) {hv : Nat → Bool} {B : Nat → Nat → Bool} {s : Sl} {w : World} {Q : Exit → Sl → World → Prop} {id : Nat} {σ : Ord}
    (hm : P.follows .mixedOrders = true) (hf : Fine ops B) (hF : Fit ops B hv (fun _ => false) [] σ)
    (h : ∀ w1, w1.heap = w.heap → Below w.heap.size w w1 → RT P ops n KK B hv (fun s w => Q .normal s w) σ s w1) : Ex P (.region id ops true) n s w Q := by
  intro a ha
  refine wp_region_any hm ?_
  have hv0 : ∀ X : Nat → Bool, (∀ i, X i = false) → vw ops s (fun _ => undef) X ops.size = s := by
    intro X hX; funext t
    suffices h : ∀ m, vw ops s (fun _ => undef) X m t = s t from h _
    intro m
    induction m with
    | zero => rfl
    | succ k ih => simp only [vw, hX]; simpa using ih
  have hl0 : ∀ i, lis (Array.replicate ops.size false) i = false := by
    intro i; unfold lis
    rw [Array.getD_eq_getD_getElem?, Array.getElem?_replicate]
    split <;> rfl
  refine run_any (s0 := s) (KK := KK) hKr hKt (hv := hv) (K := fun s w => Q .normal s w) hf (fun s' a' w' hf' hk => ⟨s', hf', hk⟩) ops.size _ a _ (fun _ => false) [] σ (fun _ => undef) (by simp) ?_ ?_ ?_ ?_ ?_ hF ?_ ?_
  · intro k o hk; rw [hl0] at hk; cases hk
  · intro i hi; rw [hl0] at hi; cases hi
  · intro k o hk; cases hk
  · rw [hv0 _ hl0]; exact ha
  · intro i hi; cases hi
  · rw [hv0 _ (fun _ => rfl)]
    exact h _ rfl ⟨rfl, rfl, rfl, Nat.le_refl _, fun _ _ => rfl⟩
  · have : ∀ m, left (Array.replicate ops.size false) m ≤ m := by
      intro m
      induction m with
      | zero => exact Nat.le_refl _
      | succ k ih => simp only [left]; split <;> omega
    exact this _

/-! ### the checks, by reckoning -/
def bitIn (T : List Nat) (i j : Nat) : Bool := (T.getD j 0).testBit i
def optHas (d : Option Tmp) (t : Tmp) : Bool := match d with | some u => Nat.beq u t | none => false
def hasT (l : List Tmp) (t : Tmp) : Bool := l.any fun u => Nat.beq u t
def names (ops : Array Oper) (o : Oper) : List Tmp := o.dst.toList ++ looks ops o
/-- small and close for one operation: each bit of T[j] is an edge or a bit of an edge's. -/
def okRow (T : List Nat) (m : Nat) (j : Nat) (o : Oper) : Bool :=
  o.after.toList.all (fun e => !bnd e || Nat.blt e.on j) &&
  (List.range m).all fun i => !bitIn T i j || o.after.toList.any fun e => bnd e && (Nat.beq e.on i || bitIn T i e.on)
def okOrd (T : List Nat) (ops : Array Oper) (m : Nat) (j : Nat) (o : Oper) : Bool :=
  (List.range m).all fun i => Nat.beq i j || (match dstOf ops i with
    | some t => !hasT (names ops o) t || (if Nat.blt i j then bitIn T i j else bitIn T j i)
    | none => true)
def okAll (ops : Array Oper) (T : List Nat) : Bool :=
  ops.toList.zipIdx.all fun (o, j) => okRow T ops.size j o && okOrd T ops ops.size j o
def chkOp (ops : Array Oper) (T : List Nat) (D H : List Nat) (i : Nat) : Bool := match ops[i]? with
  | some o => !D.any (Nat.beq i) && o.after.toList.all (fun e => !bnd e || D.any (Nat.beq e.on)) && H.all (fun k => bitIn T k i)
  | none => false
def inAltB (i : Nat) : Ord → Bool
  | .br j _ c => Nat.beq i j || inAltB i c
  | _ => false
def isBr : Ord → Bool
  | .br .. => true
  | _ => false
def topB : Ord → Bool
  | .br .. | .stop => false
  | _ => true
def okFit (ops : Array Oper) (T : List Nat) (hv : List Nat) : List Nat → List Nat → Ord → Bool
  | D, _, .nil => (List.range ops.size).all fun i => D.any (Nat.beq i)
  | D, H, .op i σ => chkOp ops T D H i && topB σ && okFit ops T hv (i :: D) (if hv.any (Nat.beq i) then i :: H else H) σ
  | D, H, .alts c => isBr c && (List.range ops.size).all (fun i => !(chkOp ops T D [] i) || inAltB i c) && okFit ops T hv D H c
  | D, H, .br i r c => chkOp ops T D H i && topB r && okFit ops T hv (i :: D) H r && okFit ops T hv D H c
  | _, _, .stop => true
def bt_ (ops : Array Oper) (T : List Nat) (i j : Nat) : Bool := Nat.blt i ops.size && bitIn T i j
theorem fine_of {ops : Array Oper} {T : List Nat} (h : okAll ops T = true) : Fine ops (bt_ ops T) := by
  have hz : ∀ j o, ops[j]? = some o → okRow T ops.size j o = true ∧ okOrd T ops ops.size j o = true := by
    intro j o ho
    unfold okAll at h
    rw [List.all_eq_true] at h
    have := h (o, j) (by rw [List.mem_zipIdx_iff_getElem?]; simpa using ho)
    simpa using this
  have hsm : ∀ j o e, ops[j]? = some o → e ∈ o.after.toList → bnd e = true → e.on < j := by
    intro j o e ho he hb
    have := (hz j o ho).1
    unfold okRow at this
    rw [Bool.and_eq_true, List.all_eq_true] at this
    have := this.1 e he
    rw [hb] at this
    simpa [Nat.blt_eq] using this
  refine ⟨hsm, ?_, ?_⟩
  · intro X j
    induction j using Nat.strongRecOn with
    | _ j ih =>
      intro o ho hc hp i hB'
      obtain ⟨hi, hB⟩ : i < ops.size ∧ bitIn T i j = true := by simpa [bt_, Nat.blt_eq] using hB'
      have := (hz j o ho).1
      unfold okRow at this
      rw [Bool.and_eq_true] at this
      have := this.2
      rw [List.all_eq_true] at this
      have := this i (by simpa using hi)
      rw [hB] at this
      simp only [Bool.not_true, Bool.false_or, List.any_eq_true, Bool.and_eq_true, Bool.or_eq_true] at this
      obtain ⟨e, he, hb, h1⟩ := this
      have hX := hp e he hb
      rcases h1 with h1 | h1
      · exact (Nat.eq_of_beq_eq_true h1) ▸ hX
      · have hlt := hsm j o e ho he hb
        have hj : j < ops.size := (Array.getElem?_eq_some_iff.1 ho).1
        have hej : e.on < ops.size := by omega
        exact ih e.on hlt _ (Array.getElem?_eq_getElem hej) hc (fun e' he' hb' => hc e.on _ hX (Array.getElem?_eq_getElem hej) e' he' hb') i (by simp [bt_, Nat.blt_eq, hi, h1])
  · intro i j o t ho hi hij hd ht
    have := (hz j o ho).2
    unfold okOrd at this
    rw [List.all_eq_true] at this
    have := this i (by simpa using hi)
    have hb : Nat.beq i j = false := by rw [beq_dec]; simp [hij]
    have hT : hasT (names ops o) t = true := by
      unfold hasT names
      rw [List.any_eq_true]
      refine ⟨t, ?_, by rw [beq_dec]; simp⟩
      rcases ht with ht | ht
      · exact List.mem_append.2 (.inl (by simp [ht]))
      · exact List.mem_append.2 (.inr ht)
    rw [hb, hd] at this
    simp only [Bool.false_or, hT, Bool.not_true] at this
    have hj : j < ops.size := (Array.getElem?_eq_some_iff.1 ho).1
    constructor
    · intro hlt
      rw [if_pos (by simpa [Nat.blt_eq] using hlt)] at this; simp [bt_, Nat.blt_eq, hi, this]
    · intro hlt
      rw [if_neg (by simp [Nat.blt_eq]; omega)] at this; simp [bt_, Nat.blt_eq, hj, this]
theorem chk_out {ops : Array Oper} {T D H : List Nat} {i : Nat} (hH : ∀ k ∈ H, k < ops.size) (h : chkOp ops T D H i = true) : ∃ o, ops[i]? = some o ∧ D.any (Nat.beq i) = false ∧ (∀ e ∈ o.after.toList, bnd e = true → D.any (Nat.beq e.on) = true) ∧ ∀ k ∈ H, bt_ ops T k i = true := by
  unfold chkOp at h
  cases ho : ops[i]? with
  | none => rw [ho] at h; cases h
  | some o =>
    rw [ho] at h
    simp only [Bool.and_eq_true, Bool.not_eq_true'] at h
    obtain ⟨⟨hn, he⟩, hb⟩ := h
    refine ⟨o, rfl, hn, fun e hee hbe => ?_, fun k hk => ?_⟩
    · rw [List.all_eq_true] at he
      have := he e hee
      rw [hbe] at this
      simpa using this
    · rw [List.all_eq_true] at hb
      have := hb k hk
      simp [bt_, Nat.blt_eq, hH k hk, this]
theorem any_cons (D : List Nat) (i : Nat) : (fun k => (i :: D).any (Nat.beq k)) = fun k => D.any (Nat.beq k) || k == i := by
  funext k
  rw [List.any_cons, beq_dec, Bool.or_comm]
  congr 1
theorem inAlt_of {i : Nat} : ∀ {c : Ord}, inAltB i c = true → ∃ r, InAlt i r c
  | .br j q c, h => by
    simp only [inAltB, Bool.or_eq_true] at h
    rcases h with h | h
    · exact ⟨q, .inl ⟨Nat.eq_of_beq_eq_true h, rfl⟩⟩
    · obtain ⟨r, hr⟩ := inAlt_of h
      exact ⟨r, .inr hr⟩
  | .nil, h | .op .., h | .alts _, h | .stop, h => by cases h
theorem fit_of {ops : Array Oper} {T hv : List Nat} : ∀ (σ : Ord) (D H : List Nat), (∀ k ∈ H, k < ops.size) → okFit ops T hv D H σ = true →
    ((topB σ = true → Fit ops (bt_ ops T) (fun i => hv.any (Nat.beq i)) (fun k => D.any (Nat.beq k)) H σ) ∧
     ∀ i r, InAlt i r σ → chkOp ops T D H i = true ∧ Fit ops (bt_ ops T) (fun i => hv.any (Nat.beq i)) (fun k => D.any (Nat.beq k) || k == i) H r)
  | .nil, D, H, _, h => ⟨fun _ => .nil fun i hi => by
    unfold okFit at h
    rw [List.all_eq_true] at h
    exact h i (by simpa using hi), fun _ _ h => h.elim⟩
  | .stop, D, H, _, _ => ⟨fun h => (by cases h), fun _ _ h => h.elim⟩
  | .op i σ, D, H, hH, h => ⟨fun _ => by
    unfold okFit at h
    simp only [Bool.and_eq_true] at h
    obtain ⟨⟨h1, h0⟩, h2⟩ := h
    obtain ⟨o, ho, hn, he, hb⟩ := chk_out hH h1
    have hi : i < ops.size := (Array.getElem?_eq_some_iff.1 ho).1
    refine .cons ho hn he hb ?_
    have ih := (fit_of σ (i :: D) (if hv.any (Nat.beq i) then i :: H else H) (by
      intro k hk
      split at hk
      · cases hk with
        | head => exact hi
        | tail _ hk => exact hH k hk
      · exact hH k hk) h2).1 h0
    rw [any_cons] at ih
    exact ih, fun _ _ h => h.elim⟩
  | .alts c, D, H, hH, h => ⟨fun _ => by
    unfold okFit at h
    simp only [Bool.and_eq_true] at h
    obtain ⟨⟨h1, h2⟩, h3⟩ := h
    have ih := (fit_of c D H hH h3).2
    refine .alts (fun i o ho hn he => ?_) ?_ (fun i r hr => ?_) fun i r hr => (ih i r hr).2
    · have hi : i < ops.size := (Array.getElem?_eq_some_iff.1 ho).1
      rw [List.all_eq_true] at h2
      have := h2 i (by simpa using hi)
      have hck : chkOp ops T D [] i = true := by
        unfold chkOp
        rw [ho]
        simp only [Bool.and_eq_true, Bool.not_eq_true', List.all_eq_true]
        refine ⟨⟨hn, fun e hee => ?_⟩, fun k hk => by cases hk⟩
        cases hb : bnd e with
        | false => simp
        | true => simpa using he e hee hb
      rw [hck] at this
      simp only [Bool.not_true, Bool.false_or] at this
      exact inAlt_of this
    · cases c <;> first | cases h1 | skip
      exact ⟨_, _, .inl ⟨rfl, rfl⟩⟩
    · obtain ⟨o, ho, hn, he, hb⟩ := chk_out hH (ih i r hr).1
      exact ⟨hn, hb, fun o' ho' => by rw [ho] at ho'; obtain rfl := Option.some.inj ho'; exact he⟩, fun _ _ h => h.elim⟩
  | .br i r c, D, H, hH, h => ⟨fun hb => (by cases hb), fun j q hj => by
    unfold okFit at h
    simp only [Bool.and_eq_true] at h
    obtain ⟨⟨⟨h1, h0⟩, h2⟩, h3⟩ := h
    rcases hj with ⟨rfl, rfl⟩ | hj
    · refine ⟨h1, ?_⟩
      have := (fit_of q (j :: D) H hH h2).1 h0
      rw [any_cons] at this
      exact this
    · exact (fit_of c D H hH h3).2 j q hj⟩
/-- .. and a fact on the world that stands. -/
structure KP (M : Nat → Prop) (Φ : World → Prop) (w w' : World) : Prop where
  kp : Kp M w w'
  phi : Φ w → Φ w'
theorem ex_dr {P : Program} {ops : Array Oper} {n : Nat} (M : Nat → Nat → Prop) (Φ : World → Prop) {s : Sl} {w : World} {Q : Exit → Sl → World → Prop} {id : Nat} (T hv : List Nat) (σ : Ord)
    (hm : P.follows .mixedOrders = true) (hf : okAll ops T = true) (hF : (topB σ && okFit ops T hv [] [] σ) = true)
    (h : ∀ w1, w1.heap = w.heap → Below w.heap.size w w1 → RT P ops n (fun i => KP (M i) Φ) (bt_ ops T) (fun i => hv.any (Nat.beq i)) (fun s w => Q .normal s w) σ s w1) : Ex P (.region id ops true) n s w Q :=
  ex_draw (fun _ _ => ⟨Kp.refl _ _, fun h => h⟩) (fun _ _ _ _ h k => ⟨h.kp.trans k.kp, fun x => k.phi (h.phi x)⟩) hm (fine_of hf) ((fit_of σ [] [] (by simp) (Bool.and_eq_true _ _ ▸ hF).2).1 (Bool.and_eq_true _ _ ▸ hF).1) h
theorem want_on {ops : Array Oper} {o : Oper} {s : Sl} {j : Nat} {b : Bool} (hg : o.guard = some (j, b)) (hy : yl ops s j = some b) : want ops o s = true := by
  simp [want, Region.wanted, hg, hy]
theorem want_off {ops : Array Oper} {o : Oper} {s : Sl} {j : Nat} {b c : Bool} (hg : o.guard = some (j, b)) (hy : yl ops s j = some c) (hb : (c == b) = false) : want ops o s = false := by
  simp only [want, Region.wanted, hg, hy]
  simpa using hb
end Go.Proofs.Ytpfibofoeblapaa
