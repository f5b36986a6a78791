/- The plain laws of Blur and IsBlurred. -/
import Derived.Test.YtpfibofoeblapaaBm
set_option linter.unusedVariables false
namespace Go.Proofs.Ytpfibofoeblapaa
open Go
theorem law_isBlurred {s : SD} (h : Lg s) : F_laws_FnExactIsBlurred s = some true := by
  unfold F_laws_FnExactIsBlurred
  obtain ⟨y, ey, ky⟩ := sz_str h
  rw [ey]
  simp only [Option.bind_some]
  by_cases hy : y < 0
  · rw [if_pos hy]
  · rw [if_neg hy]
    have hs : Sm s := ky.resolve_left hy
    obtain ⟨r, e1, e2, hr⟩ := blur_eq hs
    obtain ⟨b1, g1, k1⟩ := specEq (t := r) hs
    obtain ⟨b2, g2, k2⟩ := implEq (t := r) hs
    obtain ⟨b, eb, kb⟩ := lawsEq (t := s) hs
    have hb : b2 = b1 := by
      rw [Bool.eq_iff_iff, k1, k2]
    rw [toStr_eq hs]
    simp only [Option.bind_some]
    unfold F_spec_IsBlurred F_impl_IsBlurred
    rw [e1, e2]
    simp only [Option.bind_some]
    rw [g1, g2]
    simp only [Option.bind_some]
    rw [if_pos hb, eb]
    simp only [Option.bind_some]
    rw [if_pos (kb.2 rfl)]
theorem law_blur {s : SD} (h : Lg s) : F_laws_FnExactBlur s = some true := by
  unfold F_laws_FnExactBlur
  obtain ⟨y, ey, ky⟩ := sz_str h
  rw [ey]
  simp only [Option.bind_some]
  by_cases hy : y < 0
  · rw [if_pos hy]
  · rw [if_neg hy]
    have hs : Sm s := ky.resolve_left hy
    obtain ⟨r, e1, e2, hr⟩ := blur_eq hs
    obtain ⟨b, eb, kb⟩ := lawsEq (t := s) hs
    obtain ⟨b2, eb2, kb2⟩ := lawsEq (t := r) hr
    obtain ⟨m1, em1, hm1, hh1⟩ := mark_held hs
    obtain ⟨m2, em2, hm2, hh2⟩ := mark_held hr
    rw [toStr_eq hs]
    simp only [Option.bind_some]
    rw [e1]
    simp only [Option.bind_some]
    rw [e2]
    simp only [Option.bind_some]
    rw [eb2]
    simp only [Option.bind_some]
    rw [if_pos (kb2.2 rfl), eb]
    simp only [Option.bind_some]
    rw [if_pos (kb.2 rfl), em1]
    simp only [Option.bind_some]
    rw [if_neg (by omega), if_pos (kb2.2 rfl), em2]
    simp only [Option.bind_some]
    rw [hh2]
    simp only [Option.bind_some]
    rw [if_neg (by omega), if_pos trivial, if_pos (kb2.2 rfl), if_neg (by omega), if_pos trivial]
end Go.Proofs.Ytpfibofoeblapaa
