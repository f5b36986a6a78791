/- Sharpening, as the program does it: paths, and values that are set. -/
import Derived.Test.YtpfibofoeblapaaSp5
set_option linter.unusedVariables false
set_option linter.unusedSimpArgs false
namespace Go.Proofs.Ytpfibofoeblapaa
open Go
section
variable {n v : Nat} {ns : List NodeD} {nx : List Int} {ch bd : Bool} {to : Int} {u x z : Nat} {r : Int}
theorem f_within (a lo hi : Int) : F_impl_within a lo hi = some (decide (lo ≤ a ∧ a ≤ hi)) := by
  unfold F_impl_within
  by_cases h : lo ≤ a
  · rw [if_pos h]; simp [h]
  · rw [if_neg h]; simp; omega
theorem i_isNode (w : Wf n v (ns, nx)) (hu : u < n) : F_Str_isNode (ns, nx) (u : Int) = some true := by
  have hl : ns.length = n := w.len
  unfold F_Str_isNode
  rw [f_within]
  simp only [Option.bind_some, hl]
  congr 1
  simp; omega
theorem i_nextOf (w : Wf n v (ns, nx)) (hn : n ≤ 10) (hu : u < n) (hx : x < n) : F_impl_NextOf (ns, nx) (u : Int) (x : Int) = some (getK (ns, nx) (.X (u * n + x))) := by
  have hr := nx_lt w hu hx
  have hl : ns.length = n := w.len
  have hl2 : nx.length = n * n := w.nx
  unfold F_impl_NextOf
  rw [i_isNode w hu, i_isNode w hx]
  simp only [Option.bind_some, hl, if_true]
  rw [if_pos (by rw [hl2, wi_nn hn]), wi_idx hn hu hx, grd_t ⟨c0 _, hr⟩]
  rfl
/-! ### search -/
abbrev El (n : Nat) (q : SD) (least : Int) (a b : Nat) : Prop := least ≤ getK q (.X (a * n + b))
structure Bfs (n : Nat) (E : Nat → Nat → Prop) (i j : Nat) (seen : List Bool) (L : List Nat) : Prop where
  len : seen.length = n
  lt : ∀ a, a ∈ L → a < n
  snd : ∀ a, a < n → seen.getD a false = true → Rc n E i a
  que : ∀ a, a ∈ L → a = i ∨ seen.getD a false = true
  not : seen.getD j false = false
theorem setb {seen : List Bool} {a b : Nat} (h : a < seen.length) : (seen.set a true).getD b false = if b = a then true else seen.getD b false := by
  by_cases e : b = a
  · subst e; rw [gs_same h, if_pos rfl]
  · rw [gs_ne (Ne.symm e), if_neg e]
abbrev uns (seen : List Bool) : Nat → Prop := fun a => seen.getD a false = false
theorem uns_set {seen : List Bool} {a : Nat} (h : a < seen.length) (hf : seen.getD a false = false) : ∀ m, cntN (uns (seen.set a true)) m + (if a < m then 1 else 0) = cntN (uns seen) m
  | 0 => by simp [cntN]
  | m + 1 => by
    have ih := uns_set h hf m
    simp only [cntN]
    have e1 : uns (seen.set a true) m ↔ (m ≠ a ∧ uns seen m) := by
      unfold uns; rw [setb h]
      by_cases e : m = a
      · simp [e]
      · simp [e]
    by_cases e : m = a
    · subst e
      rw [if_neg (fun hh => (e1.1 hh).1 rfl), if_pos (show uns seen m from hf)]
      rw [if_neg (by omega)] at ih
      rw [if_pos (by omega)]; omega
    · by_cases hu : uns seen m
      · rw [if_pos (e1.2 ⟨e, hu⟩), if_pos hu]
        by_cases h2 : a < m
        · rw [if_pos h2] at ih; rw [if_pos (by omega)]; omega
        · rw [if_neg h2] at ih; rw [if_neg (by omega)]; omega
      · rw [if_neg (fun hh => hu (e1.1 hh).2), if_neg hu]
        by_cases h2 : a < m
        · rw [if_pos h2] at ih; rw [if_pos (by omega)]; omega
        · rw [if_neg h2] at ih; rw [if_neg (by omega)]; omega
theorem reaches_b1 {least : Int} {i j k : Nat} {seen0 : List Bool} {L0 : List Nat} (w : Wf n v (ns, nx)) (hn : n ≤ 10) (hi : i < n) (hj : j < n) (hk : k < n) (hki : k = i ∨ seen0.getD k false = true) (hL0 : L0.length ≤ 100)
    (hb : Bfs n (El n (ns, nx) least) i j seen0 L0) (hC : ∀ a, a < n → a = i ∨ seen0.getD a false = true → a = k ∨ a ∈ L0 ∨ ∀ b, b < n → El n (ns, nx) least a b → seen0.getD b false = true) :
    (∃ s', loopR (fun st : List Bool × List Int × Int => F_impl_reaches_b1 (ns, nx) (((k : Nat) : Int) :: L0.map fun (a : Nat) => (a : Int)) least j st.1 st.2.1 st.2.2) fuel (seen0, L0.map fun (a : Nat) => (a : Int), 0) = some (.inr s') ∧
        ∃ L : List Nat, s'.2.1 = L.map (fun (a : Nat) => (a : Int)) ∧ Bfs n (El n (ns, nx) least) i j s'.1 L ∧ (∀ a, a < n → a = i ∨ s'.1.getD a false = true → a ∈ L ∨ ∀ b, b < n → El n (ns, nx) least a b → s'.1.getD b false = true) ∧ 2 * cntN (uns s'.1) n + L.length ≤ 2 * cntN (uns seen0) n + L0.length) ∨
      (∃ b, loopR (fun st : List Bool × List Int × Int => F_impl_reaches_b1 (ns, nx) (((k : Nat) : Int) :: L0.map fun (a : Nat) => (a : Int)) least j st.1 st.2.1 st.2.2) fuel (seen0, L0.map fun (a : Nat) => (a : Int), 0) = some (.inl b) ∧ b = true ∧ Rc n (El n (ns, nx) least) i j) := by
  have hl : ns.length = n := w.len
  refine loopR_inv (fun y s => s.2.2 = (y : Int) ∧ ∃ L : List Nat, s.2.1 = L.map (fun (a : Nat) => (a : Int)) ∧ Bfs n (El n (ns, nx) least) i j s.1 L ∧ (∀ a, a < n → a = i ∨ s.1.getD a false = true → a = k ∨ a ∈ L ∨ ∀ b, b < n → El n (ns, nx) least a b → s.1.getD b false = true) ∧
    (∀ b, b < y → b < n → El n (ns, nx) least k b → s.1.getD b false = true) ∧ 2 * cntN (uns s.1) n + L.length ≤ 2 * cntN (uns seen0) n + L0.length ∧ (k = i ∨ s.1.getD k false = true)) n (by omega) ⟨rfl, L0, rfl, hb, hC, fun b h => absurd h (by omega), Nat.le_refl _, hki⟩ ?_
  rintro y ⟨seen, list, y1⟩ hy ⟨h1, L, h2, h3, h4, h5, h6, h7⟩
  simp only at h1 h2 h3 h4 h5 h6 h7
  subst h1 h2
  unfold F_impl_reaches_b1
  simp only [hl, Int.toNat_natCast]
  by_cases e : y = n
  · subst e
    refine .inl ⟨_, by rw [if_neg (by omega)], L, rfl, h3, fun a ha hh => ?_, h6⟩
    rcases h4 a ha hh with g | g | g
    · subst g; exact .inr fun b hb he => h5 b hb hb he
    · exact .inl g
    · exact .inr g
  · have hlt : y < n := by omega
    have hc1 := cntN_le (p := uns seen0) n
    have hLl : L.length < 4294967296 := by omega
    rw [if_pos (cl hlt), grd_t ⟨c0 _, by rw [h3.len]; exact cl hlt⟩]
    by_cases hs : seen.getD y false = true
    · rw [if_pos hs]
      refine .inr (.inr ⟨hlt, _, by rw [wi_succ y (by omega)], rfl, L, rfl, h3, h4, fun b hb hbn he => ?_, h6, h7⟩)
      by_cases eb : b = y
      · subst eb; exact hs
      · exact h5 b (by omega) hbn he
    · rw [if_neg hs]
      have e0 : (((k : Nat) : Int) :: L0.map fun (a : Nat) => (a : Int)).getD (0 : Int).toNat 0 = (k : Int) := rfl
      rw [e0, i_nextOf w hn hk hlt]
      simp only [Option.bind_some]
      by_cases hlow : getK (ns, nx) (.X (k * n + y)) < least
      · rw [if_pos hlow]
        refine .inr (.inr ⟨hlt, _, by rw [wi_succ y (by omega)], rfl, L, rfl, h3, h4, fun b hb hbn he => ?_, h6, h7⟩)
        by_cases eb : b = y
        · subst eb; have : least ≤ _ := he; omega
        · exact h5 b (by omega) hbn he
      · rw [if_neg hlow]
        have hE : El n (ns, nx) least k y := by show least ≤ _; omega
        have hRc : Rc n (El n (ns, nx) least) i y := by
          rcases h7 with g | g
          · subst g; exact .one hk hlt hE
          · exact .more (h3.snd k hk g) hlt hE
        by_cases ej : y = j
        · subst ej
          rw [if_pos rfl]
          exact .inr (.inl ⟨true, rfl, rfl, hRc⟩)
        · rw [if_neg (by omega), grd_t (by unfold lim; simpa using hLl)]
          have hsl : y < seen.length := by rw [h3.len]; exact hlt
          have hsf : seen.getD y false = false := by simpa using hs
          refine .inr (.inr ⟨hlt, _, by rw [wi_succ y (by omega)], rfl, L ++ [y], by simp, ⟨by simp [h3.len], fun a ha => ?_, fun a ha hh => ?_, fun a ha => ?_, ?_⟩, fun a ha hh => ?_, fun b hb hbn he => ?_, ?_, ?_⟩)
          · rcases List.mem_append.1 ha with g | g
            · exact h3.lt a g
            · simp at g; omega
          · simp only [setb hsl] at hh
            by_cases ea : a = y
            · subst ea; exact hRc
            · rw [if_neg ea] at hh; exact h3.snd a ha hh
          · simp only [setb hsl]
            rcases List.mem_append.1 ha with g | g
            · rcases h3.que a g with g | g
              · exact .inl g
              · right; split <;> simp_all
            · simp at g; subst g; right; rw [if_pos rfl]
          · simp only [setb hsl]; rw [if_neg (Ne.symm ej)]; exact h3.not
          · simp only [setb hsl] at hh ⊢
            by_cases ea : a = y
            · subst ea; exact .inr (.inl (by simp))
            · rw [if_neg ea] at hh
              rcases h4 a ha hh with g | g | g
              · exact .inl g
              · exact .inr (.inl (List.mem_append.2 (.inl g)))
              · refine .inr (.inr fun b hb he => ?_)
                have := g b hb he
                split <;> simp_all
          · simp only [setb hsl]
            by_cases eb : b = y
            · rw [if_pos eb]
            · rw [if_neg eb]; exact h5 b (by omega) hbn he
          · have := uns_set hsl hsf n
            rw [if_pos hlt] at this
            simp only [List.length_append, List.length_singleton]
            omega
          · simp only [setb hsl]
            rcases h7 with g | g
            · exact .inl g
            · right; split <;> simp_all
theorem i_reaches {least : Int} {i j : Nat} (w : Wf n v (ns, nx)) (hn : n ≤ 10) (hi : i < n) (hj : j < n) :
    ∃ b, F_impl_reaches (ns, nx) (i : Int) (j : Int) least = some b ∧ (b = true ↔ Rc n (El n (ns, nx) least) i j) := by
  have hl : ns.length = n := w.len
  unfold F_impl_reaches
  simp only [hl, Int.toNat_natCast]
  rw [grd_t ⟨c0 _, by omega⟩]
  have hrep : ∀ a, (List.replicate n false).getD a false = false := by
    intro a
    by_cases h : a < n
    · simp [List.getD_eq_getElem?_getD, h]
    · simp [List.getD_eq_getElem?_getD, h]
  have hmain := loopR_inv (body := fun st : List Bool × List Int => F_impl_reaches_b2 (ns, nx) least j st.1 st.2) (s0 := (List.replicate n false, [(i : Int)]))
    (PO := fun _ => ¬ Rc n (El n (ns, nx) least) i j) (PR := fun b => b = true ∧ Rc n (El n (ns, nx) least) i j)
    (fun m s => ∃ L : List Nat, s.2 = L.map (fun (a : Nat) => (a : Int)) ∧ Bfs n (El n (ns, nx) least) i j s.1 L ∧ (∀ a, a < n → a = i ∨ s.1.getD a false = true → a ∈ L ∨ ∀ b, b < n → El n (ns, nx) least a b → s.1.getD b false = true) ∧ 2 * cntN (uns s.1) n + L.length + m ≤ 2 * n + 1) (2 * n + 1) (by omega)
    ⟨[i], rfl, ⟨by simp, fun a ha => by simp at ha; omega, fun a _ hh => (by rw [hrep] at hh; cases hh), fun a ha => .inl (by simpa using ha), hrep j⟩, fun a _ hh => hh.elim (fun g => .inl (by simp [g])) (fun g => absurd g (by rw [hrep]; simp)), by
      have := cntN_le (p := uns (List.replicate n false)) n
      simp only [List.length_singleton]; omega⟩ (by
    rintro m ⟨seen, list⟩ hm ⟨L, h2, h3, h4, h5⟩
    simp only at h2 h3 h4 h5
    subst h2
    unfold F_impl_reaches_b2
    match L with
    | [] =>
      refine .inl ⟨_, by rw [if_neg (by simp)], fun hr => ?_⟩
      have : ∀ c, Rc n (El n (ns, nx) least) i c → seen.getD c false = true := by
        intro c hc
        suffices h : ∀ i', i' = i → ∀ c, Rc n (El n (ns, nx) least) i' c → seen.getD c false = true from h i rfl c hc
        intro i' hi' c hc
        induction hc with
        | one g1 g2 g3 =>
          subst hi'
          rcases h4 _ g1 (.inl rfl) with g | g
          · cases g
          · exact g _ g2 g3
        | more g1 g2 g3 ih =>
          rcases h4 _ g1.lt.2 (.inr ih) with g | g
          · cases g
          · exact g _ g2 g3
      have := this j hr
      rw [h3.not] at this; cases this
    | k :: L0 =>
      have hc := cntN_le (p := uns seen) n
      have hk := h3.lt k (by simp)
      have hki := h3.que k (by simp)
      simp only [List.length_cons] at h5
      have hmlt : m < 2 * n + 1 := by omega
      have hb : Bfs n (El n (ns, nx) least) i j seen L0 := ⟨h3.len, fun a ha => h3.lt a (by simp [ha]), h3.snd, fun a ha => h3.que a (by simp [ha]), h3.not⟩
      simp only [List.map_cons, List.tail_cons]
      rw [if_pos (show (((((k : Nat) : Int) :: L0.map fun (a : Nat) => (a : Int)).length : Nat) : Int) > 0 by simp only [List.length_cons]; omega), grd_t (show (0 : Int) < (((((k : Nat) : Int) :: L0.map fun (a : Nat) => (a : Int)).length : Nat) : Int) by simp only [List.length_cons]; omega)]
      rcases reaches_b1 (L0 := L0) w hn hi hj hk hki (by omega) hb (fun a ha hh => by
        rcases h4 a ha hh with g | g
        · rcases List.mem_cons.1 g with g | g
          · exact .inl g
          · exact .inr (.inl g)
        · exact .inr (.inr g)) with ⟨s', hs, L', g1, g2, g3, g4⟩ | ⟨b, hs, hb1, hb2⟩
      · rw [hs]
        exact .inr (.inr ⟨hmlt, _, rfl, L', g1, g2, g3, by show 2 * cntN (uns s'.1) n + L'.length + (m + 1) ≤ 2 * n + 1; omega⟩)
      · rw [hs]
        exact .inr (.inl ⟨b, rfl, hb1, hb2⟩))
  rcases hmain with ⟨s', hs, hp⟩ | ⟨b, hs, hb1, hb2⟩
  · rw [hs]
    exact ⟨false, rfl, by simp [hp]⟩
  · rw [hs]
    exact ⟨b, rfl, by simp [hb1, hb2]⟩
theorem i_path (w : Wf n v (ns, nx)) (hn : n ≤ 10) (hu : u < n) (hx : x < n) : ∃ p, F_impl_PathOf (ns, nx) (u : Int) (x : Int) = some p ∧ (p = 0 ↔ PathZ n u x (ns, nx)) := by
  have hl : ns.length = n := w.len
  unfold F_impl_PathOf
  rw [i_isNode w hu, i_isNode w hx]
  simp only [Option.bind_some, if_true]
  by_cases e : u = x
  · subst e
    rw [if_pos rfl]
    have hsn : ∃ y, F_impl_sameNode (ns, nx) (u : Int) = some y ∧ 1 ≤ y ∧ y ≤ 2 := by
      unfold F_impl_sameNode
      simp only [hl]
      rw [grd_t ⟨c0 _, cl hu⟩]
      split
      · exact ⟨2, rfl, by omega, by omega⟩
      · exact ⟨1, rfl, by omega, by omega⟩
    obtain ⟨y, hy, h1, h2⟩ := hsn
    rw [hy]
    simp only [Option.bind_some]
    rcases loopR_inv (body := fun st : Int => F_impl_PathOf_b1 y (ns, nx) u u st) (s0 := 2) (PO := fun _ => True) (PR := fun r => r ≠ 0) (fun k s => s = 2 - (k : Int)) 2 (by omega) (by simp) (by
      rintro k s hk rfl
      unfold F_impl_PathOf_b1
      by_cases hgt : 2 - (k : Int) > y
      · rw [if_pos hgt]
        obtain ⟨b, hb, _⟩ := i_reaches (least := 2 - (k : Int)) w hn hu hu
        rw [hb]
        simp only [Option.bind_some]
        cases b with
        | true => rw [if_pos rfl]; exact .inr (.inl ⟨_, rfl, by omega⟩)
        | false => rw [if_neg (by simp)]; exact .inr (.inr ⟨by omega, _, by rw [wi_in _ (by omega)], by omega⟩)
      · rw [if_neg hgt]; exact .inl ⟨_, rfl, trivial⟩) with ⟨s', hs, _⟩ | ⟨q, hs, hq⟩
    · rw [hs]
      exact ⟨y, rfl, by constructor <;> intro h; omega; exact absurd rfl h.1⟩
    · rw [hs]
      exact ⟨q, rfl, by constructor <;> intro h; exact absurd h hq; exact absurd rfl h.1⟩
  · rw [if_neg (by omega)]
    have hmono : ∀ a b : Int, a ≤ b → Rc n (El n (ns, nx) b) u x → Rc n (El n (ns, nx) a) u x := fun a b hab h => h.mono fun c d _ _ he => by have he : b ≤ _ := he; show a ≤ _; omega
    have h1 : Rc n (El n (ns, nx) 1) u x ↔ Rc n (fun a b => getK (ns, nx) (.X (a * n + b)) ≠ 0) u x := by
      constructor
      · exact fun h => h.mono fun a b ha hb he => by have he : (1 : Int) ≤ getK (ns, nx) (.X (a * n + b)) := he; omega
      · exact fun h => h.mono fun a b ha hb he => by have := (w.rng (.X (a * n + b)) (idx_lt ha hb)).1; show 1 ≤ _; omega
    rcases loopR_inv (body := fun st : Int => F_impl_PathOf_b2 (ns, nx) u x st) (s0 := 2) (PO := fun _ => ¬ Rc n (El n (ns, nx) 1) u x) (PR := fun r => r ≠ 0 ∧ Rc n (El n (ns, nx) 1) u x) (fun k s => s = 2 - (k : Int) ∧ (1 < k → ¬ Rc n (El n (ns, nx) 1) u x)) 2 (by omega) ⟨by simp, by omega⟩ (by
      rintro k s hk ⟨rfl, hR⟩
      unfold F_impl_PathOf_b2
      by_cases hgt : 2 - (k : Int) > 0
      · rw [if_pos hgt]
        obtain ⟨b, hb, hb2⟩ := i_reaches (least := 2 - (k : Int)) w hn hu hx
        rw [hb]
        simp only [Option.bind_some]
        cases b with
        | true => rw [if_pos rfl]; exact .inr (.inl ⟨_, rfl, by omega, hmono 1 _ (by omega) (hb2.1 rfl)⟩)
        | false =>
          rw [if_neg (by simp)]
          refine .inr (.inr ⟨by omega, _, by rw [wi_in _ (by omega)], by omega, fun hk1 hr => ?_⟩)
          have : k = 1 := by omega
          subst this
          have := hb2.2 hr
          cases this
      · rw [if_neg hgt]; exact .inl ⟨_, rfl, hR (by omega)⟩) with ⟨s', hs, hp⟩ | ⟨q, hs, hq, hq2⟩
    · rw [hs]
      exact ⟨0, rfl, by simp only [true_iff]; exact ⟨e, fun h => hp (h1.2 h)⟩⟩
    · rw [hs]
      exact ⟨q, rfl, by constructor <;> intro h; exact absurd h hq; exact absurd (h1.1 hq2) h.2⟩
end
end Go.Proofs.Ytpfibofoeblapaa
