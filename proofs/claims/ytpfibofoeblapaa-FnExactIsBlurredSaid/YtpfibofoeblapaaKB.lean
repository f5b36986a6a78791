/- Closed facts, printed. -/
import Derived.Test.YtpfibofoeblapaaHt
import Derived.Test.YtpfibofoeblapaaProg
set_option linter.unusedVariables false
set_option linter.unusedSimpArgs false
namespace Go.Proofs.Ytpfibofoeblapaa
open Go Go.RowKit
theorem sl25 : slB Try.prog 25 3 1 = true := by kernel_rfl
theorem fd123_0 : fdB Try.prog 123 0 0 = true := by kernel_rfl
theorem sc25 : scB Try.prog 25 = true := by kernel_rfl
theorem cf69 : cfB Try.prog 69 = true := by kernel_rfl
theorem fd123_1 : fdB Try.prog 123 1 1 = true := by kernel_rfl
theorem sl41 : slB Try.prog 41 123 4 = true := by kernel_rfl
theorem ag123 : agB Try.prog 123 4 = true := by kernel_rfl
theorem cf118 : cfB Try.prog 118 = true := by kernel_rfl
theorem fd43_0 : fdB Try.prog 43 0 0 = true := by kernel_rfl
theorem sc41 : scB Try.prog 41 = true := by kernel_rfl
theorem cf68 : cfB Try.prog 68 = true := by kernel_rfl
theorem fd43_1 : fdB Try.prog 43 1 1 = true := by kernel_rfl
theorem sc3 : scB Try.prog 3 = true := by kernel_rfl
theorem st3 : stB Try.prog 3 1 = true := by kernel_rfl
theorem cf71 : cfB Try.prog 71 = true := by kernel_rfl
theorem fd72_0 : fdB Try.prog 72 0 0 = true := by kernel_rfl
theorem st25 : stB Try.prog 25 1 = true := by kernel_rfl
theorem fd72_1 : fdB Try.prog 72 1 1 = true := by kernel_rfl
theorem fd123_2 : fdB Try.prog 123 2 2 = true := by kernel_rfl
theorem fd72_2 : fdB Try.prog 72 2 2 = true := by kernel_rfl
theorem fd123_3 : fdB Try.prog 123 3 3 = true := by kernel_rfl
theorem fd72_3 : fdB Try.prog 72 3 3 = true := by kernel_rfl
theorem ag72 : agB Try.prog 72 4 = true := by kernel_rfl
theorem st72 : stB Try.prog 72 4 = true := by kernel_rfl
theorem sl24 : slB Try.prog 24 72 4 = true := by kernel_rfl
theorem cf119 : cfB Try.prog 119 = true := by kernel_rfl
theorem cf70 : cfB Try.prog 70 = true := by kernel_rfl
theorem fd27_0 : fdB Try.prog 27 0 0 = true := by kernel_rfl
theorem st24 : stB Try.prog 24 1 = true := by kernel_rfl
theorem fd27_1 : fdB Try.prog 27 1 1 = true := by kernel_rfl
theorem ag27 : agB Try.prog 27 2 = true := by kernel_rfl
theorem st27 : stB Try.prog 27 2 = true := by kernel_rfl
theorem mix : Try.prog.follows .mixedOrders = true := by kernel_rfl
theorem cf74 : cfB Try.prog 74 = true := by kernel_rfl
theorem cf123 : cfB Try.prog 123 = true := by kernel_rfl
theorem sc24 : scB Try.prog 24 = true := by kernel_rfl
theorem cf73 : cfB Try.prog 73 = true := by kernel_rfl
theorem cf60 : cfB Try.prog 60 = true := by kernel_rfl
theorem cf61 : cfB Try.prog 61 = true := by kernel_rfl
theorem cf64 : cfB Try.prog 64 = true := by kernel_rfl
theorem cf63 : cfB Try.prog 63 = true := by kernel_rfl
theorem cf62 : cfB Try.prog 62 = true := by kernel_rfl
theorem cf109 : cfB Try.prog 109 = true := by kernel_rfl
theorem cf54 : cfB Try.prog 54 = true := by kernel_rfl
theorem str9 : strB Try.prog 9 = true := by kernel_rfl
theorem cf108 : cfB Try.prog 108 = true := by kernel_rfl
theorem cf165 : cfB Try.prog 165 = true := by kernel_rfl
theorem cf167 : cfB Try.prog 167 = true := by kernel_rfl
theorem cf166 : cfB Try.prog 166 = true := by kernel_rfl
theorem sl102 : slB Try.prog 102 9 1 = true := by kernel_rfl
theorem sl97 : slB Try.prog 97 25 1 = true := by kernel_rfl
theorem cf139 : cfB Try.prog 139 = true := by kernel_rfl
theorem sc9 : scB Try.prog 9 = true := by kernel_rfl
theorem cf57 : cfB Try.prog 57 = true := by kernel_rfl
theorem cf140 : cfB Try.prog 140 = true := by kernel_rfl
theorem cf17 : cfB Try.prog 17 = true := by kernel_rfl
theorem cf87 : cfB Try.prog 87 = true := by kernel_rfl
theorem cf88 : cfB Try.prog 88 = true := by kernel_rfl
theorem cf89 : cfB Try.prog 89 = true := by kernel_rfl
theorem cf55 : cfB Try.prog 55 = true := by kernel_rfl
theorem cf33 : cfB Try.prog 33 = true := by kernel_rfl
theorem cf16 : cfB Try.prog 16 = true := by kernel_rfl
theorem cf183 : cfB Try.prog 183 = true := by kernel_rfl
theorem cf99 : cfB Try.prog 99 = true := by kernel_rfl
theorem cf103 : cfB Try.prog 103 = true := by kernel_rfl
theorem cf154 : cfB Try.prog 154 = true := by kernel_rfl
theorem cf153 : cfB Try.prog 153 = true := by kernel_rfl
theorem cf97 : cfB Try.prog 97 = true := by kernel_rfl
theorem cf100 : cfB Try.prog 100 = true := by kernel_rfl
theorem cf102 : cfB Try.prog 102 = true := by kernel_rfl
theorem cf101 : cfB Try.prog 101 = true := by kernel_rfl
theorem cf104 : cfB Try.prog 104 = true := by kernel_rfl
theorem cf93 : cfB Try.prog 93 = true := by kernel_rfl
theorem cf48 : cfB Try.prog 48 = true := by kernel_rfl
theorem cf105 : cfB Try.prog 105 = true := by kernel_rfl
theorem cf141 : cfB Try.prog 141 = true := by kernel_rfl
theorem cf143 : cfB Try.prog 143 = true := by kernel_rfl
theorem cf142 : cfB Try.prog 142 = true := by kernel_rfl
theorem st9 : stB Try.prog 9 1 = true := by kernel_rfl
theorem cv3_137 : cvB Try.prog 3 137 = true := by kernel_rfl
theorem cf145 : cfB Try.prog 145 = true := by kernel_rfl
theorem cf168 : cfB Try.prog 168 = true := by kernel_rfl
theorem cf144 : cfB Try.prog 144 = true := by kernel_rfl
theorem cf50 : cfB Try.prog 50 = true := by kernel_rfl
theorem cf147 : cfB Try.prog 147 = true := by kernel_rfl
theorem cf47 : cfB Try.prog 47 = true := by kernel_rfl
theorem cf90 : cfB Try.prog 90 = true := by kernel_rfl
theorem isx25 : isSl Try.prog 25 = true := by kernel_rfl
theorem cf92 : cfB Try.prog 92 = true := by kernel_rfl
theorem cf91 : cfB Try.prog 91 = true := by kernel_rfl
theorem cf94 : cfB Try.prog 94 = true := by kernel_rfl
theorem cf49 : cfB Try.prog 49 = true := by kernel_rfl
theorem cf120 : cfB Try.prog 120 = true := by kernel_rfl
theorem cf122 : cfB Try.prog 122 = true := by kernel_rfl
theorem cf121 : cfB Try.prog 121 = true := by kernel_rfl
theorem cf34 : cfB Try.prog 34 = true := by kernel_rfl
theorem cf72 : cfB Try.prog 72 = true := by kernel_rfl
theorem ag43 : agB Try.prog 43 2 = true := by kernel_rfl
theorem cf22 : cfB Try.prog 22 = true := by kernel_rfl
theorem cf24 : cfB Try.prog 24 = true := by kernel_rfl
theorem cf31 : cfB Try.prog 31 = true := by kernel_rfl
theorem cf32 : cfB Try.prog 32 = true := by kernel_rfl
theorem bo4 : boB Try.prog 4 = true := by kernel_rfl
theorem cf26 : cfB Try.prog 26 = true := by kernel_rfl
theorem cf84 : cfB Try.prog 84 = true := by kernel_rfl
theorem cf83 : cfB Try.prog 83 = true := by kernel_rfl
theorem cf86 : cfB Try.prog 86 = true := by kernel_rfl
theorem cf85 : cfB Try.prog 85 = true := by kernel_rfl
theorem cf29 : cfB Try.prog 29 = true := by kernel_rfl
theorem cf30 : cfB Try.prog 30 = true := by kernel_rfl
theorem tv3 : tyV Try.prog 3 = some (1, 8, .int .i64 0) := by kernel_rfl
theorem zz3 : apB Try.prog 3 1 := ap_of tv3 (by kernel_rfl)
theorem mz3 : ∃ i z, Try.prog.info? 3 = some i ∧ i.bytes ≤ 1024 ∧ i.zero = some z ∧ vcs z = zc (.int .i64) := mz_of (t := (.int .i64)) tv3 (by kernel_rfl) rfl
theorem tv9 : tyV Try.prog 9 = some (1, 16, .string (⟨#[]⟩ : ByteArray)) := by kernel_rfl
theorem zz9 : apB Try.prog 9 1 := ap_of tv9 (by kernel_rfl)
theorem tv25 : tyV Try.prog 25 = some (1, 24, .slice none 0 0) := by kernel_rfl
theorem zz25 : apB Try.prog 25 1 := ap_of tv25 (by kernel_rfl)
theorem tv27 : tyV Try.prog 27 = some (2, 48, .agg #[.slice none 0 0, .slice none 0 0]) := by kernel_rfl
theorem bz27 : bzB Try.prog 27 [(0, 1), (1, 1)] [.slice none 0 0, .slice none 0 0] := by
  intro parts cells w h
  have h' : Instr.fill (#[(0, 1), (1, 1)][·]?) (Value.cells (.agg #[.slice none 0 0, .slice none 0 0])) parts.toList = some cells := h
  simp only [Instr.build, Sem.run_bind, Try.zeroValue27, Try.runUnderlying27, Result.andThen_ok]
  simp [go_sem, Try.sizeOf24, Try.sizeOf25] at h' ⊢
  simp [h', go_sem]
theorem ze27 : zeB Try.prog 27 (.agg #[.slice none 0 0, .slice none 0 0]) := ze_of tv27
theorem tv72 : tyV Try.prog 72 = some (4, 64, .agg #[.slice none 0 0, .slice none 0 0, .int .i64 0, .int .i64 0]) := by kernel_rfl
theorem zz72 : apB Try.prog 72 4 := ap_of tv72 (by kernel_rfl)
theorem bz72 : bzB Try.prog 72 [(0, 1), (1, 1), (2, 1), (3, 1)] [.slice none 0 0, .slice none 0 0, iv 0, iv 0] := by
  intro parts cells w h
  have h' : Instr.fill (#[(0, 1), (1, 1), (2, 1), (3, 1)][·]?) (Value.cells (.agg #[.slice none 0 0, .slice none 0 0, .int .i64 0, .int .i64 0])) parts.toList = some cells := h
  simp only [Instr.build, Sem.run_bind, Try.zeroValue72, Try.runUnderlying72, Result.andThen_ok]
  simp [go_sem, Try.sizeOf25, Try.sizeOf3] at h' ⊢
  simp [h', go_sem]
theorem mz72 : ∃ i z, Try.prog.info? 72 = some i ∧ i.bytes ≤ 1024 ∧ i.zero = some z ∧ vcs z = zc (.prod (.sl 3 (.int .i64)) (.prod (.sl 3 (.int .i64)) (.prod (.int .i64) (.int .i64)))) := mz_of (t := (.prod (.sl 3 (.int .i64)) (.prod (.sl 3 (.int .i64)) (.prod (.int .i64) (.int .i64))))) tv72 (by kernel_rfl) rfl
theorem ze72 : zeB Try.prog 72 (.agg #[.slice none 0 0, .slice none 0 0, .int .i64 0, .int .i64 0]) := ze_of tv72
theorem mt101 : mapT Try.prog 101 := mapT_of (kt := 9) (et := 25) (by kernel_rfl) (by kernel_rfl) (ze_of (T := 25) (n := 1) (b := 24) (z := .slice none 0 0) (by kernel_rfl))
theorem rd_K123 {H : Hp} {x : Ty.den (.prod (.sl 3 (.int .i64)) (.prod (.sl 3 (.int .i64)) (.prod (.int .i64) (.int .i64))))} {cs : List Value} (h : Rd (.prod (.sl 3 (.int .i64)) (.prod (.sl 3 (.int .i64)) (.prod (.int .i64) (.int .i64)))) H x cs) : ∃ v0 : Value, ∃ v1 : Value, cs = [v0, v1, iv x.2.2.1, iv x.2.2.2] ∧ Rd (.sl 3 (.int .i64)) H x.1 [v0] ∧ Rd (.sl 3 (.int .i64)) H x.2.1 [v1] := by
  obtain ⟨_, _, rfl, ⟨A0, c0, rfl, h0⟩, ⟨_, _, rfl, ⟨A1, c1, rfl, h1⟩, ⟨_, _, rfl, rfl, rfl⟩⟩⟩ := h
  exact ⟨_, _, rfl, ⟨A0, c0, rfl, h0⟩, ⟨A1, c1, rfl, h1⟩⟩
theorem mk_K123 {H : Hp} {x : Ty.den (.prod (.sl 3 (.int .i64)) (.prod (.sl 3 (.int .i64)) (.prod (.int .i64) (.int .i64))))} {v0 : Value} {v1 : Value} (h0 : Rd (.sl 3 (.int .i64)) H x.1 [v0]) (h1 : Rd (.sl 3 (.int .i64)) H x.2.1 [v1]) : Rd (.prod (.sl 3 (.int .i64)) (.prod (.sl 3 (.int .i64)) (.prod (.int .i64) (.int .i64)))) H x [v0, v1, iv x.2.2.1, iv x.2.2.2] := ⟨_, _, rfl, h0, ⟨_, _, rfl, h1, ⟨_, _, rfl, rfl, rfl⟩⟩⟩
theorem st_K123 {w0 w : World} {H : Hp} {F : List Ob} {x : Ty.den (.prod (.sl 3 (.int .i64)) (.prod (.sl 3 (.int .i64)) (.prod (.int .i64) (.int .i64))))} {cs : List Value} (HS : St w0 H w (.ow (.prod (.sl 3 (.int .i64)) (.prod (.sl 3 (.int .i64)) (.prod (.int .i64) (.int .i64)))) x cs :: F)) : ∃ v0 : Value, ∃ v1 : Value, cs = [v0, v1, iv x.2.2.1, iv x.2.2.2] ∧ St w0 H w (.ow (.sl 3 (.int .i64)) x.1 [v0] :: .ow (.sl 3 (.int .i64)) x.2.1 [v1] :: F) := by
  replace HS := HS.split
  obtain ⟨_, _, rfl, HS⟩ := HS
  obtain ⟨v0, rfl, -⟩ := (HS.rd 0 rfl).one
  replace HS := HS.sel (G := _ :: _ :: F) [1] 0 rfl
  replace HS := HS.split
  obtain ⟨_, _, rfl, HS⟩ := HS
  replace HS := HS.sel (G := _ :: _ :: _ :: F) [2, 0, 0] 0 rfl
  obtain ⟨v1, rfl, -⟩ := (HS.rd 1 rfl).one
  replace HS := HS.sel (G := _ :: _ :: _ :: F) [2] 0 rfl
  replace HS := HS.split
  obtain ⟨_, _, rfl, HS⟩ := HS
  replace HS := HS.sel (G := _ :: _ :: _ :: _ :: F) [2, 2, 0, 0] 0 rfl
  obtain rfl := HS.flat 2 rfl rfl
  replace HS := HS.sel (G := _ :: _ :: _ :: F) [0, 0] 1 rfl
  obtain rfl := HS.flat 2 rfl rfl
  replace HS := HS.sel (G := _ :: _ :: F) [0, 0] 1 rfl
  exact ⟨v0, v1, rfl, HS⟩
theorem rd_K43 {H : Hp} {x : Ty.den (.prod (.sl 123 (.prod (.sl 3 (.int .i64)) (.prod (.sl 3 (.int .i64)) (.prod (.int .i64) (.int .i64))))) (.sl 3 (.int .i64)))} {cs : List Value} (h : Rd (.prod (.sl 123 (.prod (.sl 3 (.int .i64)) (.prod (.sl 3 (.int .i64)) (.prod (.int .i64) (.int .i64))))) (.sl 3 (.int .i64))) H x cs) : ∃ v0 : Value, ∃ v1 : Value, cs = [v0, v1] ∧ Rd (.sl 123 (.prod (.sl 3 (.int .i64)) (.prod (.sl 3 (.int .i64)) (.prod (.int .i64) (.int .i64))))) H x.1 [v0] ∧ Rd (.sl 3 (.int .i64)) H x.2 [v1] := by
  obtain ⟨_, _, rfl, ⟨A0, c0, rfl, h0⟩, ⟨A1, c1, rfl, h1⟩⟩ := h
  exact ⟨_, _, rfl, ⟨A0, c0, rfl, h0⟩, ⟨A1, c1, rfl, h1⟩⟩
theorem mk_K43 {H : Hp} {x : Ty.den (.prod (.sl 123 (.prod (.sl 3 (.int .i64)) (.prod (.sl 3 (.int .i64)) (.prod (.int .i64) (.int .i64))))) (.sl 3 (.int .i64)))} {v0 : Value} {v1 : Value} (h0 : Rd (.sl 123 (.prod (.sl 3 (.int .i64)) (.prod (.sl 3 (.int .i64)) (.prod (.int .i64) (.int .i64))))) H x.1 [v0]) (h1 : Rd (.sl 3 (.int .i64)) H x.2 [v1]) : Rd (.prod (.sl 123 (.prod (.sl 3 (.int .i64)) (.prod (.sl 3 (.int .i64)) (.prod (.int .i64) (.int .i64))))) (.sl 3 (.int .i64))) H x [v0, v1] := ⟨_, _, rfl, h0, h1⟩
theorem st_K43 {w0 w : World} {H : Hp} {F : List Ob} {x : Ty.den (.prod (.sl 123 (.prod (.sl 3 (.int .i64)) (.prod (.sl 3 (.int .i64)) (.prod (.int .i64) (.int .i64))))) (.sl 3 (.int .i64)))} {cs : List Value} (HS : St w0 H w (.ow (.prod (.sl 123 (.prod (.sl 3 (.int .i64)) (.prod (.sl 3 (.int .i64)) (.prod (.int .i64) (.int .i64))))) (.sl 3 (.int .i64))) x cs :: F)) : ∃ v0 : Value, ∃ v1 : Value, cs = [v0, v1] ∧ St w0 H w (.ow (.sl 123 (.prod (.sl 3 (.int .i64)) (.prod (.sl 3 (.int .i64)) (.prod (.int .i64) (.int .i64))))) x.1 [v0] :: .ow (.sl 3 (.int .i64)) x.2 [v1] :: F) := by
  replace HS := HS.split
  obtain ⟨_, _, rfl, HS⟩ := HS
  obtain ⟨v0, rfl, -⟩ := (HS.rd 0 rfl).one
  obtain ⟨v1, rfl, -⟩ := (HS.rd 1 rfl).one
  exact ⟨v0, v1, rfl, HS⟩
theorem rd_K72 {H : Hp} {x : Ty.den (.prod (.sl 3 (.int .i64)) (.prod (.sl 3 (.int .i64)) (.prod (.int .i64) (.int .i64))))} {cs : List Value} (h : Rd (.prod (.sl 3 (.int .i64)) (.prod (.sl 3 (.int .i64)) (.prod (.int .i64) (.int .i64)))) H x cs) : ∃ v0 : Value, ∃ v1 : Value, cs = [v0, v1, iv x.2.2.1, iv x.2.2.2] ∧ Rd (.sl 3 (.int .i64)) H x.1 [v0] ∧ Rd (.sl 3 (.int .i64)) H x.2.1 [v1] := by
  obtain ⟨_, _, rfl, ⟨A0, c0, rfl, h0⟩, ⟨_, _, rfl, ⟨A1, c1, rfl, h1⟩, ⟨_, _, rfl, rfl, rfl⟩⟩⟩ := h
  exact ⟨_, _, rfl, ⟨A0, c0, rfl, h0⟩, ⟨A1, c1, rfl, h1⟩⟩
theorem mk_K72 {H : Hp} {x : Ty.den (.prod (.sl 3 (.int .i64)) (.prod (.sl 3 (.int .i64)) (.prod (.int .i64) (.int .i64))))} {v0 : Value} {v1 : Value} (h0 : Rd (.sl 3 (.int .i64)) H x.1 [v0]) (h1 : Rd (.sl 3 (.int .i64)) H x.2.1 [v1]) : Rd (.prod (.sl 3 (.int .i64)) (.prod (.sl 3 (.int .i64)) (.prod (.int .i64) (.int .i64)))) H x [v0, v1, iv x.2.2.1, iv x.2.2.2] := ⟨_, _, rfl, h0, ⟨_, _, rfl, h1, ⟨_, _, rfl, rfl, rfl⟩⟩⟩
theorem st_K72 {w0 w : World} {H : Hp} {F : List Ob} {x : Ty.den (.prod (.sl 3 (.int .i64)) (.prod (.sl 3 (.int .i64)) (.prod (.int .i64) (.int .i64))))} {cs : List Value} (HS : St w0 H w (.ow (.prod (.sl 3 (.int .i64)) (.prod (.sl 3 (.int .i64)) (.prod (.int .i64) (.int .i64)))) x cs :: F)) : ∃ v0 : Value, ∃ v1 : Value, cs = [v0, v1, iv x.2.2.1, iv x.2.2.2] ∧ St w0 H w (.ow (.sl 3 (.int .i64)) x.1 [v0] :: .ow (.sl 3 (.int .i64)) x.2.1 [v1] :: F) := by
  replace HS := HS.split
  obtain ⟨_, _, rfl, HS⟩ := HS
  obtain ⟨v0, rfl, -⟩ := (HS.rd 0 rfl).one
  replace HS := HS.sel (G := _ :: _ :: F) [1] 0 rfl
  replace HS := HS.split
  obtain ⟨_, _, rfl, HS⟩ := HS
  replace HS := HS.sel (G := _ :: _ :: _ :: F) [2, 0, 0] 0 rfl
  obtain ⟨v1, rfl, -⟩ := (HS.rd 1 rfl).one
  replace HS := HS.sel (G := _ :: _ :: _ :: F) [2] 0 rfl
  replace HS := HS.split
  obtain ⟨_, _, rfl, HS⟩ := HS
  replace HS := HS.sel (G := _ :: _ :: _ :: _ :: F) [2, 2, 0, 0] 0 rfl
  obtain rfl := HS.flat 2 rfl rfl
  replace HS := HS.sel (G := _ :: _ :: _ :: F) [0, 0] 1 rfl
  obtain rfl := HS.flat 2 rfl rfl
  replace HS := HS.sel (G := _ :: _ :: F) [0, 0] 1 rfl
  exact ⟨v0, v1, rfl, HS⟩
theorem rd_K27 {H : Hp} {x : Ty.den (.prod (.sl 72 (.prod (.sl 3 (.int .i64)) (.prod (.sl 3 (.int .i64)) (.prod (.int .i64) (.int .i64))))) (.sl 3 (.int .i64)))} {cs : List Value} (h : Rd (.prod (.sl 72 (.prod (.sl 3 (.int .i64)) (.prod (.sl 3 (.int .i64)) (.prod (.int .i64) (.int .i64))))) (.sl 3 (.int .i64))) H x cs) : ∃ v0 : Value, ∃ v1 : Value, cs = [v0, v1] ∧ Rd (.sl 72 (.prod (.sl 3 (.int .i64)) (.prod (.sl 3 (.int .i64)) (.prod (.int .i64) (.int .i64))))) H x.1 [v0] ∧ Rd (.sl 3 (.int .i64)) H x.2 [v1] := by
  obtain ⟨_, _, rfl, ⟨A0, c0, rfl, h0⟩, ⟨A1, c1, rfl, h1⟩⟩ := h
  exact ⟨_, _, rfl, ⟨A0, c0, rfl, h0⟩, ⟨A1, c1, rfl, h1⟩⟩
theorem mk_K27 {H : Hp} {x : Ty.den (.prod (.sl 72 (.prod (.sl 3 (.int .i64)) (.prod (.sl 3 (.int .i64)) (.prod (.int .i64) (.int .i64))))) (.sl 3 (.int .i64)))} {v0 : Value} {v1 : Value} (h0 : Rd (.sl 72 (.prod (.sl 3 (.int .i64)) (.prod (.sl 3 (.int .i64)) (.prod (.int .i64) (.int .i64))))) H x.1 [v0]) (h1 : Rd (.sl 3 (.int .i64)) H x.2 [v1]) : Rd (.prod (.sl 72 (.prod (.sl 3 (.int .i64)) (.prod (.sl 3 (.int .i64)) (.prod (.int .i64) (.int .i64))))) (.sl 3 (.int .i64))) H x [v0, v1] := ⟨_, _, rfl, h0, h1⟩
theorem st_K27 {w0 w : World} {H : Hp} {F : List Ob} {x : Ty.den (.prod (.sl 72 (.prod (.sl 3 (.int .i64)) (.prod (.sl 3 (.int .i64)) (.prod (.int .i64) (.int .i64))))) (.sl 3 (.int .i64)))} {cs : List Value} (HS : St w0 H w (.ow (.prod (.sl 72 (.prod (.sl 3 (.int .i64)) (.prod (.sl 3 (.int .i64)) (.prod (.int .i64) (.int .i64))))) (.sl 3 (.int .i64))) x cs :: F)) : ∃ v0 : Value, ∃ v1 : Value, cs = [v0, v1] ∧ St w0 H w (.ow (.sl 72 (.prod (.sl 3 (.int .i64)) (.prod (.sl 3 (.int .i64)) (.prod (.int .i64) (.int .i64))))) x.1 [v0] :: .ow (.sl 3 (.int .i64)) x.2 [v1] :: F) := by
  replace HS := HS.split
  obtain ⟨_, _, rfl, HS⟩ := HS
  obtain ⟨v0, rfl, -⟩ := (HS.rd 0 rfl).one
  obtain ⟨v1, rfl, -⟩ := (HS.rd 1 rfl).one
  exact ⟨v0, v1, rfl, HS⟩
theorem sp_K72 {w0 w : World} {H : Hp} {F : List Ob} {x : Ty.den (.prod (.sl 3 (.int .i64)) (.prod (.sl 3 (.int .i64)) (.prod (.int .i64) (.int .i64))))} {v0 : Value} {v1 : Value} (HS : St w0 H w (.ow (.prod (.sl 3 (.int .i64)) (.prod (.sl 3 (.int .i64)) (.prod (.int .i64) (.int .i64)))) x [v0, v1, iv x.2.2.1, iv x.2.2.2] :: F)) : St w0 H w (.ow (.sl 3 (.int .i64)) x.1 [v0] :: .ow (.sl 3 (.int .i64)) x.2.1 [v1] :: F) := by
  obtain ⟨_, _, e, HS⟩ := st_K72 HS
  cases e
  exact HS
theorem up_K72_2 (q : Int) : ∀ (H : Hp) (x : Ty.den (.prod (.sl 3 (.int .i64)) (.prod (.sl 3 (.int .i64)) (.prod (.int .i64) (.int .i64))))) cs S, Own (.prod (.sl 3 (.int .i64)) (.prod (.sl 3 (.int .i64)) (.prod (.int .i64) (.int .i64)))) H x cs S → 2 < cs.length ∧ Own (.prod (.sl 3 (.int .i64)) (.prod (.sl 3 (.int .i64)) (.prod (.int .i64) (.int .i64)))) H ((x.1, x.2.1, q, x.2.2.2)) (cs.set 2 (iv q)) S := by
  intro H x cs S h
  obtain ⟨az122, bz122, Sz122, Tz122, rfl, iz122, jz122, pz122, kz122, lz122⟩ := h
  obtain ⟨u0, rfl, -⟩ := (kz122.rd (H' := H) fun _ _ => rfl).one
  obtain ⟨az123, bz123, Sz123, Tz123, rfl, iz123, jz123, pz123, kz123, lz123⟩ := lz122
  obtain ⟨u1, rfl, -⟩ := (kz123.rd (H' := H) fun _ _ => rfl).one
  obtain ⟨az124, bz124, Sz124, Tz124, rfl, iz124, jz124, pz124, kz124, lz124⟩ := lz123
  obtain rfl : az124 = _ := kz124
  obtain rfl : bz124 = _ := lz124
  exact ⟨Nat.le_of_ble_eq_true rfl, ⟨[u0], [u1, iv q, iv x.2.2.2], Sz122, Tz122, rfl, iz122, jz122, pz122, kz122, ⟨[u1], [iv q, iv x.2.2.2], Sz123, Tz123, rfl, iz123, jz123, pz123, kz123, ⟨[iv q], [iv x.2.2.2], Sz124, Tz124, rfl, iz124, jz124, pz124, rfl, rfl⟩⟩⟩⟩
theorem up_K72_3 (q : Int) : ∀ (H : Hp) (x : Ty.den (.prod (.sl 3 (.int .i64)) (.prod (.sl 3 (.int .i64)) (.prod (.int .i64) (.int .i64))))) cs S, Own (.prod (.sl 3 (.int .i64)) (.prod (.sl 3 (.int .i64)) (.prod (.int .i64) (.int .i64)))) H x cs S → 3 < cs.length ∧ Own (.prod (.sl 3 (.int .i64)) (.prod (.sl 3 (.int .i64)) (.prod (.int .i64) (.int .i64)))) H ((x.1, x.2.1, x.2.2.1, q)) (cs.set 3 (iv q)) S := by
  intro H x cs S h
  obtain ⟨az125, bz125, Sz125, Tz125, rfl, iz125, jz125, pz125, kz125, lz125⟩ := h
  obtain ⟨u0, rfl, -⟩ := (kz125.rd (H' := H) fun _ _ => rfl).one
  obtain ⟨az126, bz126, Sz126, Tz126, rfl, iz126, jz126, pz126, kz126, lz126⟩ := lz125
  obtain ⟨u1, rfl, -⟩ := (kz126.rd (H' := H) fun _ _ => rfl).one
  obtain ⟨az127, bz127, Sz127, Tz127, rfl, iz127, jz127, pz127, kz127, lz127⟩ := lz126
  obtain rfl : az127 = _ := kz127
  obtain rfl : bz127 = _ := lz127
  exact ⟨Nat.le_of_ble_eq_true rfl, ⟨[u0], [u1, iv x.2.2.1, iv q], Sz125, Tz125, rfl, iz125, jz125, pz125, kz125, ⟨[u1], [iv x.2.2.1, iv q], Sz126, Tz126, rfl, iz126, jz126, pz126, kz126, ⟨[iv x.2.2.1], [iv q], Sz127, Tz127, rfl, iz127, jz127, pz127, rfl, rfl⟩⟩⟩⟩
end Go.Proofs.Ytpfibofoeblapaa
