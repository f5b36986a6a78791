/- What single operations come to. -/
import Derived.Test.YtpfibofoeblapaaOwn
import Derived.WalkLawsBesides
import Derived.IntWalk
set_option linter.unusedVariables false
set_option linter.unusedSimpArgs false
namespace Go.Proofs.Ytpfibofoeblapaa
open Go Go.RowKit

/-- An int of 64 bits. -/
abbrev iv (n : Int) : Value := .int .i64 n
def wi (n : Int) : Int := IntKind.i64.wrap n
theorem wi_in (n : Int) (h : -9223372036854775808 ≤ n ∧ n ≤ 9223372036854775807) : wi n = n := IntWalk.i64_in n (by omega)
/-! ### closed facts on types, by reckoning -/
def scB (P : Program) (T : TypeId) : Bool := (match P.underlying T with | some (.struct _) | some (.array ..) | none => false | _ => true) && (P.info? T).isSome && Nat.beq (P.cellsOf T) 1
def agB (P : Program) (T : TypeId) (n : Nat) : Bool := (match P.underlying T with | some (.struct _) => true | _ => false) && (P.info? T).isSome && Nat.beq (P.cellsOf T) n
def slB (P : Program) (T e : TypeId) (n : Nat) : Bool := (match P.underlying T with | some (.slice x) => Nat.beq x e | _ => false) && (P.info? e).isSome && Nat.beq (P.cellsOf e) n
def fdB (P : Program) (T : TypeId) (f off : Nat) : Bool := (match P.underlying T with | some (.struct fs) => (match fs[f]? with | some x => Nat.beq x.offset off && (P.info? x.type).isSome && !Nat.beq (P.cellsOf x.type) 0 | none => false) | _ => false)
def strB (P : Program) (T : TypeId) : Bool := (match P.underlying T with | some .string => true | _ => false)
def cfB (P : Program) (f : FuncId) : Bool := (match P.funcs[f]? with | some fn => fn.body.isSome && !(fn.name == "runtime.NumGoroutine") | none => false)
theorem sc_und {P : Program} {T : TypeId} (h : scB P T = true) : ∃ i u, P.info? T = some i ∧ i.size = 1 ∧ P.underlying T = some u ∧ (∀ x, u ≠ .struct x) ∧ (∀ x y, u ≠ .array x y) := by
  unfold scB at h
  simp only [Bool.and_eq_true] at h
  obtain ⟨⟨h1, h2⟩, h3⟩ := h
  obtain ⟨i, hi⟩ := Option.isSome_iff_exists.1 h2
  have h3 := Nat.eq_of_beq_eq_true h3
  simp [Program.cellsOf, hi] at h3
  cases hu : P.underlying T with
  | none => simp [hu] at h1
  | some u =>
    refine ⟨i, u, hi, h3, rfl, ?_, ?_⟩
    · rintro x rfl; simp [hu] at h1
    · rintro x y rfl; simp [hu] at h1
theorem ag_und {P : Program} {T : TypeId} {n : Nat} (h : agB P T n = true) : ∃ i u, P.info? T = some i ∧ i.size = n ∧ P.underlying T = some (.struct u) := by
  unfold agB at h
  simp only [Bool.and_eq_true] at h
  obtain ⟨⟨h1, h2⟩, h3⟩ := h
  obtain ⟨i, hi⟩ := Option.isSome_iff_exists.1 h2
  have h3 := Nat.eq_of_beq_eq_true h3
  simp [Program.cellsOf, hi] at h3
  split at h1
  · rename_i u hu; exact ⟨i, u, hi, h3, hu⟩
  · cases h1
theorem sl_und {P : Program} {T e : TypeId} {n : Nat} (h : slB P T e n = true) : ∃ i, P.info? e = some i ∧ i.size = n ∧ P.underlying T = some (.slice e) := by
  unfold slB at h
  simp only [Bool.and_eq_true] at h
  obtain ⟨⟨h1, h2⟩, h3⟩ := h
  obtain ⟨i, hi⟩ := Option.isSome_iff_exists.1 h2
  have h3 := Nat.eq_of_beq_eq_true h3
  simp [Program.cellsOf, hi] at h3
  split at h1
  · rename_i u hu; exact ⟨i, hi, h3, by rw [hu, Nat.eq_of_beq_eq_true h1]⟩
  · cases h1
theorem run_isAgg_f {P : Program} {T : TypeId} {u : TypeDesc} (hu : P.underlying T = some u) (h1 : ∀ x, u ≠ .struct x) (h2 : ∀ x y, u ≠ .array x y) (w : World) : (isAgg T).run P w = .ok false w := by
  unfold isAgg underlying
  cases u <;> first | exact absurd rfl (h1 _) | exact absurd rfl (h2 _ _) | simp [go_sem, hu]
section
variable {P : Program} {s : Sl} {w : World} {d : Option Tmp} {ty : TypeId} {pos : String} {af : Array Edge} {gd : Option (Nat × Bool)} {x y z : Operand} {T T' : TypeId} {a b : Int} {p q : Bool}
theorem r_mv {v : Value} (hx : ev s x = v) : (execOp (ev s) ⟨d, .move x, ty, pos, af, gd⟩).run P w = .ok (.value v) w := by rw [← hx]; rfl
theorem r_as {v : Value} (hx : ev s x = v) : (execOp (ev s) ⟨d, .assign x, ty, pos, af, gd⟩).run P w = .ok (.value v) w := by rw [← hx]; rfl
theorem r_pick (hc : ev s z = .bool p) : (execOp (ev s) ⟨d, .pick z x y, ty, pos, af, gd⟩).run P w = .ok (.value (bif p then ev s x else ev s y)) w := by
  cases p <;> simp [execOp, hc, asBool, go_sem]
theorem r_pickt {v : Value} (hp : p = true) (hc : ev s z = .bool p) (hx : ev s x = v) : (execOp (ev s) ⟨d, .pick z x y, ty, pos, af, gd⟩).run P w = .ok (.value v) w := by
  subst hp; rw [← hx]; exact r_pick hc
theorem r_pickf {v : Value} (hp : p = false) (hc : ev s z = .bool p) (hx : ev s y = v) : (execOp (ev s) ⟨d, .pick z x y, ty, pos, af, gd⟩).run P w = .ok (.value v) w := by
  subst hp; rw [← hx]; exact r_pick hc
theorem r_addw (hx : ev s x = iv a) (hy : ev s y = iv b) : (execOp (ev s) ⟨d, .binOp .add T x y T', ty, pos, af, gd⟩).run P w = .ok (.value (iv (wi (a + b)))) w := by
  simp [execOp, hx, hy, eqGuard, binOp, Op.intArith, go_sem, wi]
theorem r_subw (hx : ev s x = iv a) (hy : ev s y = iv b) : (execOp (ev s) ⟨d, .binOp .sub T x y T', ty, pos, af, gd⟩).run P w = .ok (.value (iv (wi (a - b)))) w := by
  simp [execOp, hx, hy, eqGuard, binOp, Op.intArith, go_sem, wi]
theorem r_mulw (hx : ev s x = iv a) (hy : ev s y = iv b) : (execOp (ev s) ⟨d, .binOp .mul T x y T', ty, pos, af, gd⟩).run P w = .ok (.value (iv (wi (a * b)))) w := by
  simp [execOp, hx, hy, eqGuard, binOp, Op.intArith, go_sem, wi]
theorem r_add (hx : ev s x = iv a) (hy : ev s y = iv b) (h : -9223372036854775808 ≤ a + b ∧ a + b ≤ 9223372036854775807) : (execOp (ev s) ⟨d, .binOp .add T x y T', ty, pos, af, gd⟩).run P w = .ok (.value (iv (a + b))) w := by
  rw [r_addw hx hy, wi_in _ h]
theorem r_sub (hx : ev s x = iv a) (hy : ev s y = iv b) (h : -9223372036854775808 ≤ a - b ∧ a - b ≤ 9223372036854775807) : (execOp (ev s) ⟨d, .binOp .sub T x y T', ty, pos, af, gd⟩).run P w = .ok (.value (iv (a - b))) w := by
  rw [r_subw hx hy, wi_in _ h]
theorem r_mul (hx : ev s x = iv a) (hy : ev s y = iv b) (h : -9223372036854775808 ≤ a * b ∧ a * b ≤ 9223372036854775807) : (execOp (ev s) ⟨d, .binOp .mul T x y T', ty, pos, af, gd⟩).run P w = .ok (.value (iv (a * b))) w := by
  rw [r_mulw hx hy, wi_in _ h]
theorem r_not (hx : ev s x = .bool p) : (execOp (ev s) ⟨d, .unOp .not T x, ty, pos, af, gd⟩).run P w = .ok (.value (.bool !p)) w := by
  simp [execOp, hx, Op.unary, go_sem]
theorem r_leq (hx : ev s x = iv a) (hy : ev s y = iv b) : (execOp (ev s) ⟨d, .binOp .leq T x y T', ty, pos, af, gd⟩).run P w = .ok (.value (.bool (decide (a ≤ b)))) w := by
  simp [execOp, hx, hy, eqGuard, binOp, Op.intCmp, go_sem]
theorem r_lss (hx : ev s x = iv a) (hy : ev s y = iv b) : (execOp (ev s) ⟨d, .binOp .lss T x y T', ty, pos, af, gd⟩).run P w = .ok (.value (.bool (decide (a < b)))) w := by
  simp [execOp, hx, hy, eqGuard, binOp, Op.intCmp, go_sem]
theorem r_gtr (hx : ev s x = iv a) (hy : ev s y = iv b) : (execOp (ev s) ⟨d, .binOp .gtr T x y T', ty, pos, af, gd⟩).run P w = .ok (.value (.bool (decide (a > b)))) w := by
  simp [execOp, hx, hy, eqGuard, binOp, Op.intCmp, go_sem]
theorem r_geq (hx : ev s x = iv a) (hy : ev s y = iv b) : (execOp (ev s) ⟨d, .binOp .geq T x y T', ty, pos, af, gd⟩).run P w = .ok (.value (.bool (decide (a ≥ b)))) w := by
  simp [execOp, hx, hy, eqGuard, binOp, Op.intCmp, go_sem]
theorem beq_deq (a b : Int) : (a == b) = decide (a = b) := by by_cases h : a = b <;> simp [h]
theorem bne_deq (a b : Int) : (a != b) = !decide (a = b) := by by_cases h : a = b <;> simp [h]
theorem r_eql (hx : ev s x = iv a) (hy : ev s y = iv b) : (execOp (ev s) ⟨d, .binOp .eql T x y T', ty, pos, af, gd⟩).run P w = .ok (.value (.bool (decide (a = b)))) w := by
  simp [execOp, hx, hy, eqGuard, binOp, Op.intCmp, go_sem, beq_deq]
theorem r_neq (hx : ev s x = iv a) (hy : ev s y = iv b) : (execOp (ev s) ⟨d, .binOp .neq T x y T', ty, pos, af, gd⟩).run P w = .ok (.value (.bool (!decide (a = b)))) w := by
  simp [execOp, hx, hy, eqGuard, binOp, Op.intCmp, go_sem, bne_deq]
theorem r_nc {pv : Value} {H : Hp} {cs : List Value} (h : AtH H pv cs) (hx : ev s x = pv) : (execOp (ev s) ⟨d, .nilCheck x, ty, pos, af, gd⟩).run P w = .ok (.value pv) w := by
  obtain ⟨a, rfl, _⟩ := h
  simp [execOp, hx, go_sem]
theorem r_ncp {a : Addr} (hx : ev s x = .pointer (some a)) : (execOp (ev s) ⟨d, .nilCheck x, ty, pos, af, gd⟩).run P w = .ok (.value (.pointer (some a))) w := by
  simp [execOp, hx, go_sem]
theorem r_mkf {fn : Fn} {first cap : Array Operand} {fs cs : List Value} (h1 : first.toList.map (ev s) = fs) (h2 : cap.toList.map (ev s) = cs) : (execOp (ev s) ⟨d, .makeFunc fn first cap, ty, pos, af, gd⟩).run P w = .ok (.value (.func fn fs.toArray cs.toArray)) w := by
  rw [← h1, ← h2]
  simp [execOp, Instr.makeFunc, go_sem]
  constructor <;> apply Array.ext' <;> simp
theorem r_ext {vs : List Value} {i : Nat} {v : Value} (hx : ev s x = .tuple vs.toArray) (hv : vs[i]? = some v) : (execOp (ev s) ⟨d, .extract x i, ty, pos, af, gd⟩).run P w = .ok (.value v) w := by
  simp [execOp, hx, Instr.extract, go_sem, hv]
/-! ### reading -/
theorem r_ld {pv v : Value} (h : AtH (hp w) pv [v]) (hT : scB P T = true) (hx : ev s x = pv) : (execOp (ev s) ⟨d, .load T x, ty, pos, af, gd⟩).run P w = .ok (.value v) w := by
  obtain ⟨a, rfl, hc⟩ := h
  have hc : w.cell? a = some v := by rw [cell_hp]; have := hc 0 v rfl; simpa [Addr.add] using this
  obtain ⟨i, u, hi, _, hu, h1, h2⟩ := sc_und hT
  have hag := run_isAgg_f hu h1 h2 w
  simp [execOp, hx, Instr.loadAt, Instr.sureAddr, loadVar, go_sem, hag, hc]
theorem run_loadCellsFrom {H : Hp} {a : Addr} {cs : List Value} (hH : H = hp w) (h : CsH H a cs) : ∀ (n i : Nat) (acc : Array Value), i + n = cs.length → (loadCellsFrom a i n acc).run P w = .ok (acc ++ (cs.drop i).toArray) w
  | 0, i, acc, e => by
    simp [loadCellsFrom, go_sem, List.drop_of_length_le (show cs.length ≤ i by omega)]
  | n + 1, i, acc, e => by
    have hi : i < cs.length := by omega
    have hc : w.cell? (a.add i) = some cs[i] := by rw [cell_hp]; subst hH; exact h i _ (List.getElem?_eq_getElem hi)
    have ih := run_loadCellsFrom hH h n (i + 1) (acc.push cs[i]) (by omega)
    simp only [loadCellsFrom]
    simp [go_sem, hc, ih]
theorem run_loadCells {a : Addr} {cs : List Value} {n : Nat} (h : CsH (hp w) a cs) (hn : cs.length = n) : (loadCells a n).run P w = .ok cs.toArray w := by
  unfold loadCells
  rw [run_loadCellsFrom rfl h n 0 #[] (by omega)]
  simp
theorem run_sizeOf {i : TypeInfo} (hi : P.info? T = some i) : (sizeOf T).run P w = .ok i.size w := by simp [sizeOf, typeInfo, go_sem, hi]
theorem r_lda {pv : Value} {cs : List Value} {n : Nat} (h : AtH (hp w) pv cs) (hT : agB P T n = true) (hn : cs.length = n) (hx : ev s x = pv) : (execOp (ev s) ⟨d, .load T x, ty, pos, af, gd⟩).run P w = .ok (.value (.agg cs.toArray)) w := by
  obtain ⟨a, rfl, hc⟩ := h
  obtain ⟨i, u, hi, hs, hu⟩ := ag_und hT
  have hag : (isAgg T).run P w = .ok true w := by simp [isAgg, underlying, go_sem, hu]
  have hl := run_loadCells (P := P) hc (hn.trans hs.symm)
  unfold loadCells at hl
  simp [execOp, hx, Instr.loadAt, Instr.sureAddr, loadVar, go_sem, hag, run_sizeOf hi, hl]
theorem r_fa {H : Hp} {pv : Value} {cs : List Value} {f off : Nat} (h : AtH H pv cs) (hT : fdB P T f off = true) (hx : ev s x = pv) : (execOp (ev s) ⟨d, .fieldAddr T x f, ty, pos, af, gd⟩).run P w = .ok (.value (padd pv off)) w := by
  obtain ⟨a, rfl, _⟩ := h
  unfold fdB at hT
  split at hT
  · rename_i fs hu
    split at hT
    · rename_i fd hf
      simp only [Bool.and_eq_true, Bool.not_eq_true'] at hT
      obtain ⟨⟨h1, h2⟩, h3⟩ := hT
      obtain ⟨i, hi⟩ := Option.isSome_iff_exists.1 h2
      have h1 := Nat.eq_of_beq_eq_true h1
      have h3 : ¬ i.size = 0 := fun e => by simp [Program.cellsOf, hi, e] at h3
      simp [execOp, hx, Instr.fieldAt, underlying, go_sem, hu, hf, Instr.sureAddr, fieldPlace, run_sizeOf hi, h3, padd, h1]
    · cases hT
  · cases hT
theorem r_ia {H : Hp} {e : TypeId} {t : Ty} {xs : List t.den} {v : Value} {i : Int} (hr : Rd (.sl e t) H xs [v]) (hT : slB P T e t.sz = true) (h0 : 0 ≤ i) (h1 : i < (xs.length : Int)) (hx : ev s x = v) (hi : ev s y = iv i) :
    (execOp (ev s) ⟨d, .indexAddr T x y, ty, pos, af, gd⟩).run P w = .ok (.value (eaddr v (i.toNat * t.sz))) w := by
  obtain ⟨A, c, rfl, _⟩ := hr.sl_val
  obtain ⟨cs, _, a, ea, _⟩ := hr.idx h0 h1
  cases A with
  | none => simp [eaddr] at ea
  | some a0 =>
    obtain ⟨j, hj, hs, hu⟩ := sl_und hT
    simp [execOp, hx, hi, Instr.indexAt, asIntOf, underlying, go_sem, hu, h0, h1, run_sizeOf hj, hs, eaddr]
theorem r_len {H : Hp} {e e' : TypeId} {t : Ty} {n : Nat} {xs : List t.den} {v : Value} (hr : Rd (.sl e t) H xs [v]) (hT : slB P T e' n = true) (hx : ev s x = v) :
    (execOp (ev s) ⟨d, .call ⟨.builtin .len, #[x], #[T]⟩, ty, pos, af, gd⟩).run P w = .ok (.value (iv xs.length)) w := by
  obtain ⟨A, c, rfl, _⟩ := hr.sl_val
  obtain ⟨j, hj, hs, hu⟩ := sl_und hT
  simp [execOp, hx, resolve, invoke, builtin, Builtin.len_, underlying, go_sem, hu, goInt]
theorem strB_und (h : strB P T = true) : P.underlying T = some .string := by
  unfold strB at h
  split at h
  · assumption
  · cases h
theorem r_lens {b : ByteArray} (hx : ev s x = .string b) (hT : strB P T = true) : (execOp (ev s) ⟨d, .call ⟨.builtin .len, #[x], #[T]⟩, ty, pos, af, gd⟩).run P w = .ok (.value (iv b.size)) w := by
  simp [execOp, hx, resolve, invoke, builtin, Builtin.len_, underlying, go_sem, strB_und hT, goInt]
/-! ### blocks -/
def setB (w : World) (g : Nat) (o : Obj) : World := { w with heap := w.heap.setIfInBounds g o }
theorem setB_size (g : Nat) (o : Obj) : (setB w g o).heap.size = w.heap.size := by simp [setB]
theorem setB_at {g : Nat} (o : Obj) (h : g < w.heap.size) : (setB w g o).heap[g]? = some o := by simp [setB, h]
theorem setB_ne {g k : Nat} (o : Obj) (h : k ≠ g) : (setB w g o).heap[k]? = w.heap[k]? := by simp [setB, Array.getElem?_setIfInBounds_ne (Ne.symm h)]
theorem setCell_setB {g : Nat} {arr : Array Value} {T : TypeId} {fz : Nat × Nat} {j : Nat} {v : Value} (h : w.heap[g]? = some (.cells arr T fz)) : w.setCell ⟨g, j, none⟩ v = setB w g (.cells (arr.setIfInBounds j v) T fz) := by
  unfold World.setCell setB
  have hlt := (Array.getElem?_eq_some_iff.1 h).1
  have he : w.heap[g] = .cells arr T fz := (Array.getElem?_eq_some_iff.1 h).2
  congr 1
  apply Array.ext
  · simp
  · intro i h1 h2
    rw [Array.getElem_modify, Array.getElem_setIfInBounds]
    split
    · rename_i e; subst e; simp [he]
    · rfl
def spl (l : List Value) (off : Nat) (vs : List Value) : List Value := l.take off ++ vs ++ l.drop (off + vs.length)
theorem spl_nil (l : List Value) (off : Nat) : spl l off [] = l := by simp [spl]
theorem spl_cons (l : List Value) (off : Nat) (v : Value) (vs : List Value) (h : off < l.length) : spl (l.set off v) (off + 1) vs = spl l off (v :: vs) := by
  unfold spl
  rw [List.take_set, List.drop_set_of_lt (by omega), List.take_succ_eq_append_getElem h]
  have : (List.take off l ++ [l[off]]).set off v = List.take off l ++ [v] := by
    rw [List.set_append_right _ _ (by simp; omega)]
    have : off - (List.take off l).length = 0 := by simp; omega
    rw [this]; rfl
  rw [this]
  simp [Nat.add_assoc, Nat.add_comm 1]
theorem run_storeCells {g : Nat} {T : TypeId} : ∀ (vs : List Value) (w : World) (l : List Value) (off i : Nat), w.heap[g]? = some (.cells l.toArray T (0, 0)) → (∀ v ∈ vs, plainV v = true) → off + i + vs.length ≤ l.length →
    (storeCells ⟨g, off, none⟩ vs i).run P w = .ok () (setB w g (.cells (spl l (off + i) vs).toArray T (0, 0)))
  | [], w, l, off, i, h, hp, hl => by
    have : setB w g (.cells l.toArray T (0, 0)) = w := by
      unfold setB
      congr 1
      apply Array.ext
      · simp
      · intro k h1 h2
        rw [Array.getElem_setIfInBounds]
        split
        · rename_i e; subst e; exact ((Array.getElem?_eq_some_iff.1 h).2).symm
        · rfl
    simp [storeCells, go_sem, spl_nil, this]
  | v :: vs, w, l, off, i, h, hp, hl => by
    have hadd : (⟨g, off, none⟩ : Addr).add i = ⟨g, off + i, none⟩ := by unfold Addr.add; split <;> simp_all
    have hlen : off + i < l.length := by simp at hl; omega
    have hc : w.cell? ⟨g, off + i, none⟩ = some l[off + i] := by simp [World.cell?, h, hlen]
    have hfz : w.frozen? ⟨g, off + i, none⟩ = false := by simp [World.frozen?, h]
    have hlt := (Array.getElem?_eq_some_iff.1 h).1
    have hst : (store ⟨g, off + i, none⟩ v).run P w = .ok () (setB w g (.cells (l.set (off + i) v).toArray T (0, 0))) := by
      have hpv := hp v (by simp)
      have e : w.setCell ⟨g, off + i, none⟩ v = setB w g (.cells (l.set (off + i) v).toArray T (0, 0)) := by rw [setCell_setB h]; simp
      unfold store
      cases v <;> first | (simp [plainV] at hpv; done) | simp [Sem.run, hc, hfz, e]
    have ih := run_storeCells vs (setB w g (.cells (l.set (off + i) v).toArray T (0, 0))) (l.set (off + i) v) off (i + 1) (setB_at _ hlt) (fun u hu => hp u (by simp [hu])) (by simp at hl ⊢; omega)
    simp only [storeCells, hadd]
    have hss : ∀ o o', setB (setB w g o) g o' = setB w g o' := by intro o o'; simp [setB]
    simp [go_sem, hst, ih, hss]
    rw [← Nat.add_assoc, spl_cons _ _ _ _ hlen]
/-! ### what makes or writes memory, or calls -/
theorem ro_lt {ops : Array Oper} {n : Nat} {l : List Oper} {K : Sl → World → Prop} {op : Op} {v : Value} (hr : (execOp (ev s) ⟨d, op, ty, pos, af, none⟩).run P w = .ok (.value v) w) (hd : dlt n d = true)
    (h : RO P ops n l (dput s d v) w K) : RO P ops n (⟨d, op, ty, pos, af, none⟩ :: l) s w K := by
  intro a Q ha hQ
  simp only [wpL, Region.wanted, if_true]
  unfold Oper.wp
  rw [ha.ev, hr]
  exact h _ Q (ha.put hd v) hQ
theorem ro_hy {ops : Array Oper} {n : Nat} {l : List Oper} {K : Sl → World → Prop} {op : Op} {R : Value → World → Prop} (hr : OpR P ⟨d, op, ty, pos, af, none⟩ s w R) (hd : dlt n d = true)
    (h : ∀ v w', R v w' → RO P ops n l (dput s d v) w' K) : RO P ops n (⟨d, op, ty, pos, af, none⟩ :: l) s w K := by
  intro a Q ha hQ
  simp only [wpL, Region.wanted, if_true]
  exact hr.wp ha fun v w' hv => h v w' hv _ Q (ha.put hd v) hQ
theorem ro_on {ops : Array Oper} {n : Nat} {l : List Oper} {K : Sl → World → Prop} {op : Op} {j : Nat} {b : Bool} (hy : yl ops s j = some b) (h : RO P ops n (⟨d, op, ty, pos, af, none⟩ :: l) s w K) :
    RO P ops n (⟨d, op, ty, pos, af, some (j, b)⟩ :: l) s w K := by
  intro a Q ha hQ
  have h := h a Q ha hQ
  simp only [wpL, Region.wanted, if_true] at h
  simp only [wpL, Region.wanted, yl_eq ha, hy, beq_self_eq_true, if_true]
  exact h
theorem ro_off {ops : Array Oper} {n : Nat} {l : List Oper} {K : Sl → World → Prop} {op : Op} {j : Nat} {b c : Bool} (hy : yl ops s j = some c) (hb : (c == b) = false) (hd : dlt n d = true) (h : RO P ops n l (dput s d undef) w K) :
    RO P ops n (⟨d, op, ty, pos, af, some (j, b)⟩ :: l) s w K := by
  intro a Q ha hQ
  simp only [wpL, Region.wanted, yl_eq ha, hy]
  have : ((some c : Option Bool) == some b) = false := by simpa using hb
  simp only [this]
  exact h _ Q (ha.put hd undef) hQ
def vcs (v : Value) : List Value := v.cells.toList
theorem below_push (o : Obj) : Below w.heap.size w { w with heap := w.heap.push o } := ⟨rfl, rfl, rfl, by simp, fun k hk => by simp [Array.getElem?_push, Nat.ne_of_lt hk]⟩
theorem push_at (o : Obj) : ({ w with heap := w.heap.push o } : World).heap[w.heap.size]? = some o := by simp
theorem o_push {w0 : World} {H : Hp} {F : List Ob} {cs : List Value} (HS : St w0 H w F) : Below w.heap.size w { w with heap := w.heap.push (.cells cs.toArray T) } ∧ St w0 H { w with heap := w.heap.push (.cells cs.toArray T) } (.bx w.heap.size T cs :: F) :=
  ⟨below_push _, HS.new (below_push _) (S := fun b => b = w.heap.size) (fun b e => by subst e; simp) ⟨rfl, push_at _⟩⟩
theorem o_box {w0 : World} {H : Hp} {F : List Ob} {V : Value} {cs : List Value} (HS : St w0 H w F) (hx : ev s x = V) (hc : vcs V = cs) :
    OpR P ⟨d, .box T x, ty, pos, af, gd⟩ s w fun v w' => ∃ g, v = .pointer (some ⟨g, 0, none⟩) ∧ Below w.heap.size w w' ∧ St w0 H w' (.bx g T cs :: F) := by
  have hv : V.cells = cs.toArray := by rw [← hc]; simp [vcs]
  have hr : (execOp (ev s) ⟨d, .box T x, ty, pos, af, gd⟩).run P w = .ok (.value (.pointer (some ⟨w.heap.size, 0, none⟩))) { w with heap := w.heap.push (.cells (ev s x).cells T) } := rfl
  rw [hx, hv] at hr
  unfold OpR
  rw [hr]
  exact ⟨_, rfl, o_push HS⟩
def zeB (P : Program) (T : TypeId) (V : Value) : Prop := ∃ i, P.info? T = some i ∧ i.zero = some V
theorem o_alloc {w0 : World} {H : Hp} {F : List Ob} {V : Value} {cs : List Value} (HS : St w0 H w F) (hz : zeB P T V) (hc : vcs V = cs) :
    OpR P ⟨d, .alloc T, ty, pos, af, gd⟩ s w fun v w' => ∃ g, v = .pointer (some ⟨g, 0, none⟩) ∧ Below w.heap.size w w' ∧ St w0 H w' (.bx g T cs :: F) := by
  have hv : V.cells = cs.toArray := by rw [← hc]; simp [vcs]
  obtain ⟨i, hi, hz⟩ := hz
  have hzv : (zeroValue T).run P w = .ok V w := by simp [zeroValue, typeInfo, go_sem, hi, hz]
  have hnv : (newVar T V).run P w = .ok ⟨w.heap.size, 0, none⟩ { w with heap := w.heap.push (.cells cs.toArray T) } := by rw [← hv]; rfl
  have hr : (execOp (ev s) ⟨d, .alloc T, ty, pos, af, gd⟩).run P w = .ok (.value (.pointer (some ⟨w.heap.size, 0, none⟩))) { w with heap := w.heap.push (.cells cs.toArray T) } := by
    simp only [execOp, Instr.alloc]
    simp only [Sem.run_bind, Sem.run_pure, hzv, hnv, Result.andThen]
  unfold OpR
  rw [hr]
  exact ⟨_, rfl, o_push HS⟩
theorem St.bx_turn {w0 w' : World} {H : Hp} {F : List Ob} {g : Nat} {l cs : List Value} (HS : St w0 H w (.bx g T l :: F)) : St w0 H (setB w g (.cells cs.toArray T (0, 0))) (.bx g T cs :: F) := by
  have hlt : g < w.heap.size := hp_lt (HS.box 0 rfl)
  refine HS.turn rfl rfl rfl (by simp [setB]) fun S ho hS => ⟨fun b hb hs => setB_ne _ fun e => hs (e ▸ ho.1), .inl ho.1, setB_at _ hlt⟩
/-- A store into the first object, a box. -/
theorem o_st {w0 : World} {H : Hp} {F : List Ob} {g off n : Nat} {T' : TypeId} {l vs : List Value} {V : Value} (HS : St w0 H w (.bx g T' l :: F)) (hx : ev s x = .pointer (some ⟨g, off, none⟩)) (hy : ev s y = V) (hv : vcs V = vs)
    (hi : (P.info? T).isSome = true) (hn : P.cellsOf T = vs.length) (hl : off + vs.length ≤ l.length) (hp : ∀ v ∈ vs, plainV v = true) :
    OpR P ⟨d, .store T x y, ty, pos, af, gd⟩ s w fun v w' => v = undef ∧ w' = setB w g (.cells (spl l off vs).toArray T' (0, 0)) ∧ St w0 H w' (.bx g T' (spl l off vs) :: F) := by
  obtain ⟨i, hi⟩ := Option.isSome_iff_exists.1 hi
  simp [Program.cellsOf, hi] at hn
  have hc : V.cells = vs.toArray := by rw [← hv]; simp [vcs]
  have hst := run_storeCells (P := P) (g := g) (T := T') vs w l off 0 (HS.box 0 rfl) hp (by omega)
  have hsv : (storeVar T ⟨g, off, none⟩ V).run P w = .ok () (setB w g (.cells (spl l off vs).toArray T' (0, 0))) := by
    unfold storeVar
    rw [hc]
    simp only [Sem.run_bind, run_sizeOf hi, Result.andThen, hn, List.size_toArray, ne_eq, not_true_eq_false, if_false, Sem.run_pure]
    exact hst
  have hr : (execOp (ev s) ⟨d, .store T x y, ty, pos, af, gd⟩).run P w = .ok .skip (setB w g (.cells (spl l off vs).toArray T' (0, 0))) := by
    simp only [execOp, Instr.storeAt, hx, hy, Instr.sureAddr, Sem.run_bind, Sem.run_pure, Result.andThen, hsv]
  unfold OpR
  rw [hr]
  exact ⟨rfl, rfl, HS.bx_turn (w' := w)⟩
theorem cf_und {f : FuncId} (h : cfB P f = true) : ∃ fn, P.funcs[f]? = some fn ∧ fn.body.isNone = false ∧ (fn.name == "runtime.NumGoroutine") = false := by
  unfold cfB at h
  split at h
  · rename_i fn hf
    simp only [Bool.and_eq_true, Bool.not_eq_true'] at h
    exact ⟨fn, hf, by cases hb : fn.body <;> simp_all, h.2⟩
  · cases h
theorem run_callFunc {f : FuncId} {args : Array Value} (hf : cfB P f = true) : (callFunc f args).run P w = .ok (.enter f args) w := by
  obtain ⟨fn, h1, h2, h3⟩ := cf_und hf
  have h2' : ¬ fn.body = none := fun e => by rw [e] at h2; cases h2
  have h3' : ¬ fn.name = "runtime.NumGoroutine" := fun e => by rw [e] at h3; simp at h3
  simp [callFunc, go_sem, h1, h2', h3']
theorem o_call {f : FuncId} {args : Array Operand} {at_ : Array TypeId} {vs : List Value} {R : Value → World → Prop} (hf : cfB P f = true) (ha : args.toList.map (ev s) = vs)
    (hc : Calls P f vs.toArray w fun e w' => ∃ v, e = .returned v ∧ R v w') : OpR P ⟨d, .call ⟨.value (.func f), args, at_⟩, ty, pos, af, gd⟩ s w R := by
  have hm : args.map (ev s) = vs.toArray := by rw [← ha]; apply Array.ext'; simp
  have hr : (execOp (ev s) ⟨d, .call ⟨.value (.func f), args, at_⟩, ty, pos, af, gd⟩).run P w = .ok (.enter f vs.toArray) w := by
    simp only [execOp, resolve, hm, Go.Proofs.Ytpfibofoeblapaa.ev, Deferred.ofValue, Sem.run_bind, Sem.run_pure, Result.andThen, invoke, Array.append_empty, Array.empty_append]
    exact run_callFunc hf
  unfold OpR
  rw [hr]
  exact hc
theorem o_callv {f : FuncId} {args : Array Operand} {at_ : Array TypeId} {vs fs cs : List Value} {R : Value → World → Prop} (hf : cfB P f = true) (hx : ev s x = .func (.func f) fs.toArray cs.toArray) (ha : args.toList.map (ev s) = vs)
    (hc : Calls P f (fs ++ vs ++ cs).toArray w fun e w' => ∃ v, e = .returned v ∧ R v w') : OpR P ⟨d, .call ⟨.value x, args, at_⟩, ty, pos, af, gd⟩ s w R := by
  have hm : args.map (ev s) = vs.toArray := by rw [← ha]; apply Array.ext'; simp
  have hr : (execOp (ev s) ⟨d, .call ⟨.value x, args, at_⟩, ty, pos, af, gd⟩).run P w = .ok (.enter f (fs ++ vs ++ cs).toArray) w := by
    simp only [execOp, resolve, hm, hx, Deferred.ofValue, Sem.run_bind, Sem.run_pure, Result.andThen, invoke]
    have e : fs.toArray ++ vs.toArray ++ cs.toArray = (fs ++ vs ++ cs).toArray := by simp
    rw [e]
    exact run_callFunc hf
  unfold OpR
  rw [hr]
  exact hc
end
/-! ### into a function and out of it -/
def ini (l : List Value) : Sl := fun t => l.getD t undef
theorem fr_ini {n : Nat} {l : List Value} (h : l.length ≤ n) : Fr n (ini l) { tmps := l.toArray ++ Array.replicate (n - l.toArray.size) undef, defers := [] } := by
  refine ⟨rfl, by simp; omega, fun t => ?_⟩
  simp only [ini, Array.getD_eq_getD_getElem?, List.getD_eq_getElem?_getD]
  rw [Array.getElem?_append]
  split
  · rename_i h; simp
  · rename_i h
    rw [Array.getElem?_replicate]
    have : l[t]? = none := List.getElem?_eq_none (by simpa using h)
    rw [this]
    split <;> rfl
/-- A value that is handed back. -/
def RV (P : Program) (s : Sl) (w : World) : ResultVar → Value → Prop
  | .tmp t, v => s t = v
  | .cell t T, v => ∃ a, s t = .pointer (some a) ∧ (loadVar T a).run P w = .ok v w
section
variable {P : Program} {fn : Func} {n : Nat} {s : Sl} {a : Act} {w : World} {r1 r2 r3 : ResultVar} {v1 v2 v3 : Value}
def rvS (s : Sl) : ResultVar → Sem Value
  | .tmp t => pure (s t)
  | .cell x t => do loadVar t (← asAddr (s x))
theorem rvS_run {r : ResultVar} {v : Value} (h : RV P s w r v) : (rvS s r).run P w = .ok v w := by
  cases r with
  | tmp t => rw [← show s t = v from h]; rfl
  | cell x t =>
    obtain ⟨a, e, h⟩ := h
    simp only [rvS, e, asAddr, Sem.run_bind, Sem.run_pure, Result.andThen, h]
theorem results_eq (ha : Fr n s a) : results fn a.tmps = (do
    let vs ← fn.results.mapM (rvS s)
    pure (if h : vs.size = 1 then vs[0] else .tuple vs)) := by
  unfold results
  congr 1
  congr 1
  funext r
  cases r <;> simp only [rvS, ha.g]
theorem res0 (ha : Fr n s a) (h : fn.results = #[]) : (results fn a.tmps).run P w = .ok (.tuple #[]) w := by
  rw [results_eq ha, h]; simp [go_sem]
theorem res1 (ha : Fr n s a) (h : fn.results = #[r1]) (h1 : RV P s w r1 v1) : (results fn a.tmps).run P w = .ok v1 w := by
  rw [results_eq ha, h]
  simp [go_sem, rvS_run h1]
theorem res2 (ha : Fr n s a) (h : fn.results = #[r1, r2]) (h1 : RV P s w r1 v1) (h2 : RV P s w r2 v2) : (results fn a.tmps).run P w = .ok (.tuple #[v1, v2]) w := by
  rw [results_eq ha, h]
  simp [go_sem, rvS_run h1, rvS_run h2]
theorem res3 (ha : Fr n s a) (h : fn.results = #[r1, r2, r3]) (h1 : RV P s w r1 v1) (h2 : RV P s w r2 v2) (h3 : RV P s w r3 v3) : (results fn a.tmps).run P w = .ok (.tuple #[v1, v2, v3]) w := by
  rw [results_eq ha, h]
  simp [go_sem, rvS_run h1, rvS_run h2, rvS_run h3]
/-- How a body ends. -/
def FQ (P : Program) (fn : Func) (n : Nat) (R : Ending → World → Prop) : Exit → Sl → World → Prop := fun e s w =>
  (e = .normal ∨ e = .ret) ∧ ∃ v, (∀ a, Fr n s a → (results fn a.tmps).run P w = .ok v w) ∧ R (.returned v) w
theorem calls_ex {f : FuncId} {c : Code} {args : List Value} {R : Ending → World → Prop} (hf : P.funcs[f]? = some fn) (hb : fn.body = some c) (hn : fn.ntmps = n) (hl : args.length ≤ n)
    (h : Ex P c n (ini args) w (FQ P fn n R)) : Calls P f args.toArray w R := by
  refine calls_of_wp hf hb ?_
  rw [hn]
  refine wp_mono (h _ (fr_ini hl)) ?_
  rintro e a' w' ⟨s', hf', he, v, hv, hR⟩
  rcases he with rfl | rfl
  · exact ⟨hf'.d, v, hv a' hf', hR⟩
  · exact ⟨hf'.d, v, hv a' hf', hR⟩
theorem ret0 {e : Exit} {R : Ending → World → Prop} (he : e = .normal ∨ e = .ret) (h : fn.results = #[]) (hR : R (.returned (.tuple #[])) w) : FQ P fn n R e s w :=
  ⟨he, _, fun a ha => res0 ha h, hR⟩
theorem ret1 {e : Exit} {R : Ending → World → Prop} (he : e = .normal ∨ e = .ret) (h : fn.results = #[r1]) (h1 : RV P s w r1 v1) (hR : R (.returned v1) w) : FQ P fn n R e s w :=
  ⟨he, _, fun a ha => res1 ha h h1, hR⟩
theorem ret2 {e : Exit} {R : Ending → World → Prop} (he : e = .normal ∨ e = .ret) (h : fn.results = #[r1, r2]) (h1 : RV P s w r1 v1) (h2 : RV P s w r2 v2) (hR : R (.returned (.tuple #[v1, v2])) w) : FQ P fn n R e s w :=
  ⟨he, _, fun a ha => res2 ha h h1 h2, hR⟩
theorem ret3 {e : Exit} {R : Ending → World → Prop} (he : e = .normal ∨ e = .ret) (h : fn.results = #[r1, r2, r3]) (h1 : RV P s w r1 v1) (h2 : RV P s w r2 v2) (h3 : RV P s w r3 v3) (hR : R (.returned (.tuple #[v1, v2, v3])) w) : FQ P fn n R e s w :=
  ⟨he, _, fun a ha => res3 ha h h1 h2 h3, hR⟩
end
end Go.Proofs.Ytpfibofoeblapaa
