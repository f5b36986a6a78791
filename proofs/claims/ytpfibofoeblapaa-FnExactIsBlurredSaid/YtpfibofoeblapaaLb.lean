/- Walks of Go's library: strings.Compare; bits.Len of what is small. -/
import Derived.Test.YtpfibofoeblapaaPl
import Derived.Test.YtpfibofoeblapaaGen
import Derived.Test.YtpfibofoeblapaaProg
import Derived.Lib.Strings
import Derived.Lib.Slices
import Derived.Lib.Small
import Derived.Lib.Walk
set_option linter.unusedVariables false
namespace Go.Proofs.Ytpfibofoeblapaa
open Go Go.Proofs
set_option maxHeartbeats 1000000 in
set_option maxRecDepth 100000 in
theorem l_CompareString (a b : ByteArray) (w : World) :
    Calls Try.prog 146 #[.string a, .string b] w fun e w' => e = .returned (.int .i64 (Lib.compareBytes a.data.toList b.data.toList)) ∧ w' = w := by
  go_enter Try.func146, Try.ntmps146
  go_wp2
  rw [run_callFunc_extern Try.func178 (by kernel_rfl) (by kernel_rfl) (by kernel_rfl) (e := Extern.BytealgCompare.compare) (by kernel_rfl), Lib.run_compareString]
  simp only [Result.andThen]
  rw [Oper.upon_value]
  go_wp2
  go_ret
  exact ⟨rfl, rfl⟩
set_option maxHeartbeats 1000000 in
theorem l_Compare (a b : ByteArray) (w : World) :
    Calls Try.prog 92 #[.string a, .string b] w fun e w' => e = .returned (.int .i64 (Lib.compareBytes a.data.toList b.data.toList)) ∧ w' = w := by
  go_enter Try.func92, Try.ntmps92
  go_wp2_with (go_at_call 146; refine (l_CompareString _ _ _).mono ?_; rintro e w' ⟨rfl, rfl⟩)
  go_ret
  exact ⟨rfl, rfl⟩
set_option maxHeartbeats 4000000 in
set_option maxRecDepth 100000 in
theorem l_Len64 (x : Int) (w : World) (h0 : 0 ≤ x) (h1 : x ≤ 255) :
    Calls Try.prog 177 #[.int .u64 x] w fun e w' => e = .returned (.int .i64 (Lib.bitLen x.toNat)) ∧ w' = w := by
  have e1 : ¬ 4294967296 ≤ x := by omega
  have e2 : ¬ 65536 ≤ x := by omega
  have e3 : ¬ 256 ≤ x := by omega
  go_enter Try.func177, Try.ntmps177
  go_wp2
  all_goals first
    | (exfalso; omega)
    | (go_ret
       refine ⟨congrArg Ending.returned (congrArg (Value.int IntKind.i64) ?_), rfl⟩
       have l := Lib.bitLen_le8' x h0 h1
       rw [Lib.len8_of x h0 h1]
       unfold RowKit.wrap64
       omega)
theorem l_Len (x : Int) (w : World) (h0 : 0 ≤ x) (h1 : x ≤ 255) :
    Calls Try.prog 145 #[.int .u64 x] w fun e w' => e = .returned (.int .i64 (Lib.bitLen x.toNat)) ∧ w' = w := by
  go_enter Try.func145, Try.ntmps145
  go_wp2_with (go_at_call 177; refine (l_Len64 x _ h0 h1).mono ?_; rintro e w' ⟨rfl, rfl⟩)
  go_ret
  exact ⟨rfl, rfl⟩
theorem c_strings_Compare {w : World} {a b : ByteArray} {r : Int} (h : F_strings_Compare a b = some r) : Calls Try.prog 92 [.string a, .string b].toArray w (P1 (.int .i64) w r) := by
  obtain rfl := Option.some.inj h
  refine (l_Compare a b w).mono ?_
  rintro e w' ⟨rfl, rfl⟩
  exact P1.of_flat (St.init _) (Sub.refl _) rfl
theorem c_math_bits_Len {w : World} {x r : Int} (h : F_math_bits_Len x = some r) : Calls Try.prog 145 [.int .u64 x].toArray w (P1 (.int .i64) w r) := by
  unfold F_math_bits_Len at h
  split at h
  · rename_i hx
    obtain rfl := Option.some.inj h
    refine (l_Len x w hx.1 hx.2).mono ?_
    rintro e w' ⟨rfl, rfl⟩
    exact P1.of_flat (St.init _) (Sub.refl _) rfl
  · cases h
end Go.Proofs.Ytpfibofoeblapaa
