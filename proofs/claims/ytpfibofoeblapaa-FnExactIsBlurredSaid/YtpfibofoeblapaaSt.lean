/- States: walks by hand. -/
import Derived.Test.YtpfibofoeblapaaNs
import Derived.Test.YtpfibofoeblapaaPlain
import Derived.Test.YtpfibofoeblapaaProg
set_option linter.unusedVariables false
set_option linter.unusedSimpArgs false
namespace Go.Proofs.Ytpfibofoeblapaa
open Go Go.RowKit
theorem sc3s : scB Try.prog 3 = true := by kernel_rfl
theorem st3s : stB Try.prog 3 1 = true := by kernel_rfl
theorem st4s : stB Try.prog 4 1 = true := by kernel_rfl
theorem fd95_2s : fdB Try.prog 95 2 3 = true := by kernel_rfl
theorem fd95_3s : fdB Try.prog 95 3 4 = true := by kernel_rfl
/-- A number that stands within what is owned. -/
structure Cell (P : Program) (ob : Int → Ob) (pv : Value) : Prop where
  rd : ∀ {w0 w : World} {H : Hp} {F : List Ob} (x : Int), St w0 H w (ob x :: F) → AtH (hp w) pv [iv x]
  wr : ∀ {w0 w : World} {H : Hp} {F : List Ob} {s : Sl} {d : Option Tmp} {ty : TypeId} {pos : String} {af : Array Edge} {gd : Option (Nat × Bool)} {a b : Operand} (x y : Int), St w0 H w (ob x :: F) → ev s a = pv → ev s b = iv y →
    OpR P ⟨d, .store 3 a b, ty, pos, af, gd⟩ s w fun u w' => u = undef ∧ St w0 H w' (ob y :: F)
set_option maxRecDepth 20000 in
theorem c_set0 {w : World} {H : Hp} {FR : List Ob} {g : Nat} {V N : Value} {vars x to : Int} {ch bd : Bool} {ob : Int → Ob} {pv : Value} (hc : Cell Try.prog ob pv)
    (HS : St w H w (.bx g 95 [V, N, iv vars, .bool ch, .bool bd] :: ob x :: FR)) {r : Int × Bool × Bool} (h : F_set x to ch bd = some r) :
    Calls Try.prog 161 [.pointer (some ⟨g, 0, none⟩), pv, iv to].toArray w (PS (.tuple #[]) fun w' => St w H w' (.bx g 95 [V, N, iv vars, .bool r.2.1, .bool r.2.2] :: ob r.1 :: FR)) := by
  unfold F_set at h
  have hx := hc.rd x (HS.sel (G := _ :: _ :: FR) [1, 0] 0 rfl)
  refine calls_ex (n := 23) Try.func161 rfl Try.ntmps161 (Nat.le_of_ble_eq_true rfl) ?_
  refine ex_seq ?_
  refine ex_region ?_
  refine ro_lt (r_mv (v := pv) rfl) rfl ?_
  refine ro_lt (r_nc hx rfl) rfl ?_
  refine ro_lt (r_ld hx sc3s rfl) rfl ?_
  refine RO.nil (nx ?_)
  refine ex_block ?_
  refine ex_seq ?_
  refine ex_region ?_
  refine ro_lt (r_mv (v := iv to) rfl) rfl ?_
  refine ro_lt (r_eql rfl rfl) rfl ?_
  refine ro_lt (r_as (v := .bool (decide (x = to))) rfl) rfl ?_
  refine RO.nil (nx ?_)
  replace h := ite_some h; rcases h with ⟨c1, h⟩ | ⟨c1, h⟩
  · refine ex_if_t rfl (decide_eq_true c1) ?_
    refine ex_skip (blk_nx ?_)
    obtain rfl := Option.some.inj h
    exact ret0 (.inl rfl) rfl ⟨rfl, HS⟩
  refine ex_if_f rfl (decide_eq_false c1) ?_
  refine ex_seq ?_
  refine ex_region ?_
  refine ro_lt (r_eql rfl rfl) rfl ?_
  refine ro_lt (r_as (v := .bool (decide (x = 1))) rfl) rfl ?_
  refine RO.nil (nx ?_)
  replace h := ite_some h; rcases h with ⟨c2, h⟩ | ⟨c2, h⟩
  · refine ex_if_t rfl (decide_eq_true c2) ?_
    refine ex_seq ?_
    refine ex_region ?_
    refine ro_lt (r_mv (v := pv) rfl) rfl ?_
    refine ro_lt (r_mv (v := iv to) rfl) rfl ?_
    refine ro_lt (r_nc hx rfl) rfl ?_
    refine ro_hy (hc.wr x to (HS.sel (G := _ :: _ :: FR) [1, 0] 0 rfl) rfl rfl) rfl ?_
    rintro _ w1 ⟨rfl, HS⟩
    refine RO.nil (nx ?_)
    refine ex_region ?_
    refine ro_lt (r_mv (v := .pointer (some ⟨g, 0, none⟩)) rfl) rfl ?_
    refine ro_lt (r_nc (HS.boxAt 1 rfl) rfl) rfl ?_
    refine ro_lt (r_fa (HS.boxAt 1 rfl) fd95_2s rfl) rfl ?_
    refine ro_hy (o_str (off := 3) (vs := [.bool true]) (l' := [V, N, iv vars, .bool true, .bool bd]) (HS.sel (G := _ :: _ :: FR) [1, 0] 0 rfl) rfl rfl rfl st4s rfl rfl (pl rfl pl0) rfl) rfl ?_
    rintro _ w2 ⟨rfl, hk, HS⟩
    refine RO.nil (blk_nx ?_)
    obtain rfl := Option.some.inj h
    exact ret0 (.inl rfl) rfl ⟨rfl, HS⟩
  refine ex_if_f rfl (decide_eq_false c2) ?_
  refine ex_region ?_
  refine ro_lt (r_mv (v := .pointer (some ⟨g, 0, none⟩)) rfl) rfl ?_
  refine ro_lt (r_nc (HS.boxAt 0 rfl) rfl) rfl ?_
  refine ro_lt (r_fa (HS.boxAt 0 rfl) fd95_3s rfl) rfl ?_
  refine ro_hy (o_str (off := 4) (vs := [.bool true]) (l' := [V, N, iv vars, .bool ch, .bool true]) HS rfl rfl rfl st4s rfl rfl (pl rfl pl0) rfl) rfl ?_
  rintro _ w2 ⟨rfl, hk, HS⟩
  refine RO.nil (blk_nx ?_)
  obtain rfl := Option.some.inj h
  exact ret0 (.inl rfl) rfl ⟨rfl, HS⟩
theorem getD_set_self {α : Type} {xs : List α} {i : Nat} {x d : α} (h : i < xs.length) : (xs.set i x).getD i d = x := by
  simp [List.getD_eq_getElem?_getD, h]
theorem set_getD_self {α : Type} {xs : List α} {i : Nat} {d : α} : xs.set i (xs.getD i d) = xs := by
  apply List.ext_getElem?
  intro j
  by_cases h : i = j
  · subst h
    by_cases hl : i < xs.length
    · simp [hl]
    · rw [List.getElem?_eq_none (by simpa using hl), List.getElem?_eq_none (by simpa using hl)]
  · simp [List.getElem?_set_ne h]
theorem cell_f2 {e ei n : Nat} {V : Value} {sh : Shp} {xs : List NodeD} {i : Int} (h0 : 0 ≤ i) (h1 : i < (n : Int)) (hl : xs.length = n) : Cell Try.prog (fun q => .pr (NS e ei n V sh (xs.set i.toNat ((xs.getD i.toNat dN).1, (xs.getD i.toNat dN).2.1, q, (xs.getD i.toNat dN).2.2.2)))) (padd (eaddr V (i.toNat * 4)) 2) := by
  have hi : i.toNat < xs.length := by omega
  refine ⟨fun q HS => ?_, fun q q' HS hx hy => ?_⟩
  · have := (HS.nsAt 0 rfl (i := i.toNat) (by omega)).seg 2 1
    rw [getD_set_self hi] at this; exact this
  · refine (o_nsf (off := 2) (q := q') HS h0 h1 st3s (.inl ⟨rfl, rfl⟩) hx hy).mono ?_
    rintro u w' ⟨rfl, _, HS⟩
    refine ⟨rfl, ?_⟩
    simp only [getD_set_self hi, List.set_set] at HS; exact HS
theorem c_set_f2 {w : World} {H : Hp} {FR : List Ob} {g : Nat} {V' N : Value} {vars to : Int} {ch bd : Bool} {e ei n : Nat} {V : Value} {sh : Shp} {xs : List NodeD} {i : Int}
    (HS : St w H w (.bx g 95 [V', N, iv vars, .bool ch, .bool bd] :: .pr (NS e ei n V sh xs) :: FR)) (h0 : 0 ≤ i) (h1 : i < (n : Int)) {r : Int × Bool × Bool} (h : F_set (xs.getD i.toNat dN).2.2.1 to ch bd = some r) :
    Calls Try.prog 161 [.pointer (some ⟨g, 0, none⟩), padd (eaddr V (i.toNat * 4)) 2, iv to].toArray w (PS (.tuple #[]) fun w' => St w H w' (.bx g 95 [V', N, iv vars, .bool r.2.1, .bool r.2.2] :: .pr (NS e ei n V sh (xs.set i.toNat ((xs.getD i.toNat dN).1, (xs.getD i.toNat dN).2.1, r.1, (xs.getD i.toNat dN).2.2.2))) :: FR)) := by
  have hl := HS.nsLen 1 rfl
  have e1 : xs.set i.toNat ((xs.getD i.toNat dN).1, (xs.getD i.toNat dN).2.1, ((xs.getD i.toNat dN).2.2.1), (xs.getD i.toNat dN).2.2.2) = xs := set_getD_self (d := dN)
  have HS' := HS
  rw [← e1] at HS'
  exact c_set0 (cell_f2 h0 h1 hl) HS' h
theorem cell_f3 {e ei n : Nat} {V : Value} {sh : Shp} {xs : List NodeD} {i : Int} (h0 : 0 ≤ i) (h1 : i < (n : Int)) (hl : xs.length = n) : Cell Try.prog (fun q => .pr (NS e ei n V sh (xs.set i.toNat ((xs.getD i.toNat dN).1, (xs.getD i.toNat dN).2.1, (xs.getD i.toNat dN).2.2.1, q)))) (padd (eaddr V (i.toNat * 4)) 3) := by
  have hi : i.toNat < xs.length := by omega
  refine ⟨fun q HS => ?_, fun q q' HS hx hy => ?_⟩
  · have := (HS.nsAt 0 rfl (i := i.toNat) (by omega)).seg 3 1
    rw [getD_set_self hi] at this; exact this
  · refine (o_nsf (off := 3) (q := q') HS h0 h1 st3s (.inr ⟨rfl, rfl⟩) hx hy).mono ?_
    rintro u w' ⟨rfl, _, HS⟩
    refine ⟨rfl, ?_⟩
    simp only [getD_set_self hi, List.set_set] at HS; exact HS
theorem c_set_f3 {w : World} {H : Hp} {FR : List Ob} {g : Nat} {V' N : Value} {vars to : Int} {ch bd : Bool} {e ei n : Nat} {V : Value} {sh : Shp} {xs : List NodeD} {i : Int}
    (HS : St w H w (.bx g 95 [V', N, iv vars, .bool ch, .bool bd] :: .pr (NS e ei n V sh xs) :: FR)) (h0 : 0 ≤ i) (h1 : i < (n : Int)) {r : Int × Bool × Bool} (h : F_set (xs.getD i.toNat dN).2.2.2 to ch bd = some r) :
    Calls Try.prog 161 [.pointer (some ⟨g, 0, none⟩), padd (eaddr V (i.toNat * 4)) 3, iv to].toArray w (PS (.tuple #[]) fun w' => St w H w' (.bx g 95 [V', N, iv vars, .bool r.2.1, .bool r.2.2] :: .pr (NS e ei n V sh (xs.set i.toNat ((xs.getD i.toNat dN).1, (xs.getD i.toNat dN).2.1, (xs.getD i.toNat dN).2.2.1, r.1))) :: FR)) := by
  have hl := HS.nsLen 1 rfl
  have e1 : xs.set i.toNat ((xs.getD i.toNat dN).1, (xs.getD i.toNat dN).2.1, (xs.getD i.toNat dN).2.2.1, ((xs.getD i.toNat dN).2.2.2)) = xs := set_getD_self (d := dN)
  have HS' := HS
  rw [← e1] at HS'
  exact c_set0 (cell_f3 h0 h1 hl) HS' h
theorem cell_r1 {e ei n : Nat} {V : Value} {sh : Shp} {xs : List NodeD} {i z : Int} (h0 : 0 ≤ i) (h1 : i < (n : Int)) (hl : xs.length = n) (z0 : 0 ≤ z) (z1 : z < ((xs.getD i.toNat dN).1.length : Int)) : Cell Try.prog (fun q => .pr (NS e ei n V sh (xs.set i.toNat ((xs.getD i.toNat dN).1.set z.toNat q, (xs.getD i.toNat dN).2)))) (eaddr (sh i.toNat).1 (z.toNat * 1)) := by
  have hi : i.toNat < xs.length := by omega
  have hz : z.toNat < (xs.getD i.toNat dN).1.length := by omega
  refine ⟨fun q HS => ?_, fun q q' HS hx hy => ?_⟩
  · have hr := HS.nsR1 0 rfl (i := i.toNat) (by omega)
    rw [getD_set_self hi] at hr
    have := hr.int z0 (by simpa using z1)
    rw [getD_set_self hz] at this; exact this
  · refine (o_nsr (q := q') (z := z) HS h0 h1 st3s (.inl ⟨rfl, by rw [getD_set_self hi]; simpa using z1, rfl⟩) z0 hx hy).mono ?_
    rintro u w' ⟨rfl, _, HS⟩
    refine ⟨rfl, ?_⟩
    simp only [getD_set_self hi, List.set_set] at HS; exact HS
theorem c_set_r1 {w : World} {H : Hp} {FR : List Ob} {g : Nat} {V' N : Value} {vars to : Int} {ch bd : Bool} {e ei n : Nat} {V : Value} {sh : Shp} {xs : List NodeD} {i z : Int}
    (HS : St w H w (.bx g 95 [V', N, iv vars, .bool ch, .bool bd] :: .pr (NS e ei n V sh xs) :: FR)) (h0 : 0 ≤ i) (h1 : i < (n : Int)) (z0 : 0 ≤ z) (z1 : z < ((xs.getD i.toNat dN).1.length : Int)) {r : Int × Bool × Bool} (h : F_set ((xs.getD i.toNat dN).1.getD z.toNat 0) to ch bd = some r) :
    Calls Try.prog 161 [.pointer (some ⟨g, 0, none⟩), eaddr (sh i.toNat).1 (z.toNat * 1), iv to].toArray w (PS (.tuple #[]) fun w' => St w H w' (.bx g 95 [V', N, iv vars, .bool r.2.1, .bool r.2.2] :: .pr (NS e ei n V sh (xs.set i.toNat ((xs.getD i.toNat dN).1.set z.toNat r.1, (xs.getD i.toNat dN).2))) :: FR)) := by
  have hl := HS.nsLen 1 rfl
  have e1 : xs.set i.toNat ((xs.getD i.toNat dN).1.set z.toNat ((xs.getD i.toNat dN).1.getD z.toNat 0), (xs.getD i.toNat dN).2) = xs := by rw [set_getD_self]; exact set_getD_self (d := dN)
  have HS' := HS
  rw [← e1] at HS'
  exact c_set0 (cell_r1 h0 h1 hl z0 z1) HS' h
theorem cell_r2 {e ei n : Nat} {V : Value} {sh : Shp} {xs : List NodeD} {i z : Int} (h0 : 0 ≤ i) (h1 : i < (n : Int)) (hl : xs.length = n) (z0 : 0 ≤ z) (z1 : z < ((xs.getD i.toNat dN).2.1.length : Int)) : Cell Try.prog (fun q => .pr (NS e ei n V sh (xs.set i.toNat ((xs.getD i.toNat dN).1, (xs.getD i.toNat dN).2.1.set z.toNat q, (xs.getD i.toNat dN).2.2)))) (eaddr (sh i.toNat).2 (z.toNat * 1)) := by
  have hi : i.toNat < xs.length := by omega
  have hz : z.toNat < (xs.getD i.toNat dN).2.1.length := by omega
  refine ⟨fun q HS => ?_, fun q q' HS hx hy => ?_⟩
  · have hr := HS.nsR2 0 rfl (i := i.toNat) (by omega)
    rw [getD_set_self hi] at hr
    have := hr.int z0 (by simpa using z1)
    rw [getD_set_self hz] at this; exact this
  · refine (o_nsr (q := q') (z := z) HS h0 h1 st3s (.inr ⟨rfl, by rw [getD_set_self hi]; simpa using z1, rfl⟩) z0 hx hy).mono ?_
    rintro u w' ⟨rfl, _, HS⟩
    refine ⟨rfl, ?_⟩
    simp only [getD_set_self hi, List.set_set] at HS; exact HS
theorem c_set_r2 {w : World} {H : Hp} {FR : List Ob} {g : Nat} {V' N : Value} {vars to : Int} {ch bd : Bool} {e ei n : Nat} {V : Value} {sh : Shp} {xs : List NodeD} {i z : Int}
    (HS : St w H w (.bx g 95 [V', N, iv vars, .bool ch, .bool bd] :: .pr (NS e ei n V sh xs) :: FR)) (h0 : 0 ≤ i) (h1 : i < (n : Int)) (z0 : 0 ≤ z) (z1 : z < ((xs.getD i.toNat dN).2.1.length : Int)) {r : Int × Bool × Bool} (h : F_set ((xs.getD i.toNat dN).2.1.getD z.toNat 0) to ch bd = some r) :
    Calls Try.prog 161 [.pointer (some ⟨g, 0, none⟩), eaddr (sh i.toNat).2 (z.toNat * 1), iv to].toArray w (PS (.tuple #[]) fun w' => St w H w' (.bx g 95 [V', N, iv vars, .bool r.2.1, .bool r.2.2] :: .pr (NS e ei n V sh (xs.set i.toNat ((xs.getD i.toNat dN).1, (xs.getD i.toNat dN).2.1.set z.toNat r.1, (xs.getD i.toNat dN).2.2))) :: FR)) := by
  have hl := HS.nsLen 1 rfl
  have e1 : xs.set i.toNat ((xs.getD i.toNat dN).1, (xs.getD i.toNat dN).2.1.set z.toNat ((xs.getD i.toNat dN).2.1.getD z.toNat 0), (xs.getD i.toNat dN).2.2) = xs := by rw [set_getD_self]; exact set_getD_self (d := dN)
  have HS' := HS
  rw [← e1] at HS'
  exact c_set0 (cell_r2 h0 h1 hl z0 z1) HS' h
theorem cell_x {N : Value} {ys : List Int} {i : Int} (h0 : 0 ≤ i) (h1 : i < (ys.length : Int)) : Cell Try.prog (fun q => .ow (.sl 3 (.int .i64)) (ys.set i.toNat q) [N]) (eaddr N (i.toNat * 1)) := by
  have hi : i.toNat < ys.length := by omega
  refine ⟨fun q HS => ?_, fun q q' HS hx hy => ?_⟩
  · have := (HS.rd 0 rfl).int h0 (by simpa using h1)
    rw [getD_set_self hi] at this; exact this
  · refine (o_set (t := .int .i64) (x' := q') HS rfl h0 (by simpa using h1) st3s hx hy).mono ?_
    rintro u w' ⟨rfl, _, HS⟩
    refine ⟨rfl, ?_⟩
    simp only [List.set_set] at HS; exact HS
theorem c_set_x {w : World} {H : Hp} {FR : List Ob} {g : Nat} {V' N' N : Value} {vars to : Int} {ch bd : Bool} {ys : List Int} {i : Int}
    (HS : St w H w (.bx g 95 [V', N', iv vars, .bool ch, .bool bd] :: .ow (.sl 3 (.int .i64)) ys [N] :: FR)) (h0 : 0 ≤ i) (h1 : i < (ys.length : Int)) {r : Int × Bool × Bool} (h : F_set (ys.getD i.toNat 0) to ch bd = some r) :
    Calls Try.prog 161 [.pointer (some ⟨g, 0, none⟩), eaddr N (i.toNat * 1), iv to].toArray w (PS (.tuple #[]) fun w' => St w H w' (.bx g 95 [V', N', iv vars, .bool r.2.1, .bool r.2.2] :: .ow (.sl 3 (.int .i64)) (ys.set i.toNat r.1) [N] :: FR)) := by
  have e1 : ys.set i.toNat (ys.getD i.toNat 0) = ys := set_getD_self
  have HS' := HS
  rw [← e1] at HS'
  exact c_set0 (cell_x h0 h1) HS' h
end Go.Proofs.Ytpfibofoeblapaa
