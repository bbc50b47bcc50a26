/- A section so many times, and so many sections once: plain. -/
import Derived.Test.YthmcicmebaibgaaTWnd
namespace Go.Proofs.Ythmcicmebaibgaa.TTm
open Go Go.RowKit Go.Proofs.Ythmcicmebaibgaa.WMod Go.Proofs.Ythmcicmebaibgaa.TMod Go.Proofs.Ythmcicmebaibgaa.TRead Go.Proofs.Ythmcicmebaibgaa.TSz Go.Proofs.Ythmcicmebaibgaa.TPl Go.Proofs.Ythmcicmebaibgaa.TEv Go.Proofs.Ythmcicmebaibgaa.TNext Go.Proofs.Ythmcicmebaibgaa.TPm Go.Proofs.Ythmcicmebaibgaa.TPlr Go.Proofs.Ythmcicmebaibgaa.TLit Go.Proofs.Ythmcicmebaibgaa.Opn Go.Proofs.Ythmcicmebaibgaa.Hp Go.Proofs.Ythmcicmebaibgaa.Rd Go.Proofs.Ythmcicmebaibgaa.TWWrong
set_option linter.unusedVariables false

def cpy (l : Int) (evs : List Ev) (k : For) : Nat → For
  | 0 => .nil
  | n + 1 => .cons 1 l evs k (cpy l evs k n)

theorem cpy_len (l : Int) (evs : List Ev) (k : For) : ∀ n, (cpy l evs k n).len = n
  | 0 => rfl
  | n + 1 => by simp only [cpy, For.len]; rw [cpy_len l evs k n]

theorem cpy_play (l : Int) (evs : List Ev) (k : For) : ∀ (n : Nat) (a : Int), playF (cpy l evs k n) a = repF (oneF l evs k) (l + dur k) n a
  | 0, a => rfl
  | n + 1, a => by
    simp only [cpy]
    rw [play_cons, cpy_play l evs k n]
    simp only [secF, show (1 : Int).toNat = 1 from rfl, repF, List.append_nil]
    rw [Int.one_mul]

theorem times_play (n : Nat) (l : Int) (evs : List Ev) (k : For) (a : Int) : playF (.cons (n : Int) l evs k .nil) a = playF (cpy l evs k n) a := by
  rw [play_cons, cpy_play]
  simp [secF, playF]

theorem times_next (n : Nat) (l : Int) (evs : List Ev) (k : For) (a t : Int) : nextR (.cons (n : Int) l evs k .nil) a t = nextR (cpy l evs k n) a t := by
  unfold nextR
  rw [times_play]

theorem times_turn (n : Nat) (l : Int) (evs : List Ev) (k : For) (t : Int) : playR (.cons (n : Int) l evs k .nil) 0 [⟨-1, t⟩] = playR (cpy l evs k n) 0 [⟨-1, t⟩] := by
  simp only [playR]
  rw [go_turn, go_turn, times_next]

/-- With other sections met ahead: the same, or too many. -/
theorem lng_shift : ∀ (f : For) (lv : Nat) (s s' all : Int), (lng lv f s all).2.2 = 0 → ((lng lv f s' all).2.2 = 0 ∧ (lng lv f s' all).1 = (lng lv f s all).1) ∨ (lng lv f s' all).2.2 = 5
  | .nil, lv, s, s', all, _ => .inl ⟨rfl, rfl⟩
  | .cons t l evs k r, lv, s, s', all, h => by
    unfold lng at h ⊢
    by_cases c1 : 256 < s + 1
    · rw [if_pos c1] at h; cases h
    rw [if_neg c1] at h
    rw [if_neg c1]
    by_cases c1' : 256 < s' + 1
    · right; rw [if_pos c1']
    rw [if_neg c1']
    by_cases c2 : t < 0 ∨ 65536 < t ∨ l < 0 ∨ 65536 < l
    · rw [if_pos c2] at h; cases h
    rw [if_neg c2] at h
    rw [if_neg c2, if_neg c2]
    by_cases c3 : wrong evs ≠ 0
    · rw [if_pos c3] at h; exact absurd h c3
    rw [if_neg c3] at h
    rw [if_neg c3, if_neg c3]
    by_cases c4 : lateB l evs = true
    · rw [if_pos c4] at h; cases h
    rw [if_neg c4] at h
    rw [if_neg c4, if_neg c4]
    simp only at h ⊢
    by_cases c5 : 32 < lv + 1 ∧ 0 < k.len
    · rw [if_pos c5] at h; cases h
    rw [if_neg c5] at h
    rw [if_neg c5, if_neg c5]
    by_cases c6 : (lng (lv + 1) k (s + 1) 0).2.2 ≠ 0
    · rw [if_pos c6] at h; exact absurd h c6
    rw [if_neg c6] at h
    rw [if_neg c6]
    have hk := lng_shift k (lv + 1) (s + 1) (s' + 1) 0 (by omega)
    by_cases c6' : (lng (lv + 1) k (s' + 1) 0).2.2 ≠ 0
    · rw [if_pos c6']
      right
      rcases hk with ⟨hk, _⟩ | hk
      · exact absurd hk c6'
      · exact hk
    rw [if_neg c6']
    have hv : (lng (lv + 1) k (s' + 1) 0).1 = (lng (lv + 1) k (s + 1) 0).1 := by
      rcases hk with ⟨_, hk⟩ | hk
      · exact hk
      · omega
    rw [hv]
    by_cases c7 : total < all + t * (l + (lng (lv + 1) k (s + 1) 0).1)
    · rw [if_pos c7] at h; cases h
    rw [if_neg c7] at h
    rw [if_neg c7, if_neg c7]
    exact lng_shift r lv _ _ _ h

/-- Sections that are each as the first one: how the last one ends. -/
theorem cpy_lng {l : Int} {evs : List Ev} {k : For} {s0 : Int} (hl : ¬ (l < 0 ∨ 65536 < l)) (hw : ¬ wrong evs ≠ 0) (hlt : ¬ lateB l evs = true) (hlev : ¬ (32 < 1 + 1 ∧ 0 < k.len)) (hk : (lng (1 + 1) k s0 0).2.2 = 0) (hK : 0 ≤ (lng (1 + 1) k s0 0).1) :
    ∀ (m : Nat) (s all : Int), all ≤ total → (lng 1 (cpy l evs k m) s all).2.2 = 5 ∨ ((lng 1 (cpy l evs k m) s all).2.2 = 4 ∧ total < all + (m : Int) * (l + (lng (1 + 1) k s0 0).1)) ∨ ((lng 1 (cpy l evs k m) s all).2.2 = 0 ∧ all + (m : Int) * (l + (lng (1 + 1) k s0 0).1) ≤ total)
  | 0, s, all, h => by
    right; right
    refine ⟨rfl, ?_⟩
    simp
    exact h
  | m + 1, s, all, h => by
    obtain ⟨K, hKK⟩ : ∃ K, (lng (1 + 1) k s0 0).1 = K := ⟨_, rfl⟩
    have ih := cpy_lng hl hw hlt hlev hk hK m
    rw [hKK] at ih hK ⊢
    have hm : ((m + 1 : Nat) : Int) * (l + K) = (l + K) + (m : Int) * (l + K) := by rw [Int.natCast_add, Int.add_mul]; simp; omega
    have hm0 : 0 ≤ (m : Int) * (l + K) := Int.mul_nonneg (by omega) (by omega)
    rw [hm]
    simp only [cpy]
    unfold lng
    by_cases c1 : 256 < s + 1
    · left; rw [if_pos c1]
    rw [if_neg c1, if_neg (by omega), if_neg hw, if_neg hlt]
    simp only
    rw [if_neg hlev]
    have hsh := lng_shift k (1 + 1) s0 (s + 1) 0 hk
    by_cases c6 : (lng (1 + 1) k (s + 1) 0).2.2 ≠ 0
    · rw [if_pos c6]
      left
      rcases hsh with ⟨h1, _⟩ | h1
      · exact absurd h1 c6
      · exact h1
    rw [if_neg c6]
    have hv : (lng (1 + 1) k (s + 1) 0).1 = K := by
      rcases hsh with ⟨_, h1⟩ | h1
      · rw [h1, hKK]
      · omega
    rw [hv, Int.one_mul]
    by_cases c7 : total < all + (l + K)
    · rw [if_pos c7]
      right; left
      exact ⟨rfl, by omega⟩
    rw [if_neg c7]
    rcases ih (lng (1 + 1) k (s + 1) 0).2.1 (all + (l + K)) (by omega) with h1 | ⟨h1, h2⟩ | ⟨h1, h2⟩
    · exact .inl h1
    · exact .inr (.inl ⟨h1, by omega⟩)
    · exact .inr (.inr ⟨h1, by omega⟩)

theorem longE_eq (f : For) : longE f = (lng 1 f 0 0).2.2 := by
  unfold longE top
  rw [if_neg (by omega)]

section
variable {lv : Nat} {t l : Int} {evs : List Ev} {k r : For} {s a : Int}
theorem e_range (hs : ¬ 256 < s + 1) (h : t < 0 ∨ 65536 < t ∨ l < 0 ∨ 65536 < l) : (lng lv (.cons t l evs k r) s a).2.2 = 3 := by
  unfold lng
  rw [if_neg hs, if_pos h]
theorem e_wrong (hs : ¬ 256 < s + 1) (h : ¬ (t < 0 ∨ 65536 < t ∨ l < 0 ∨ 65536 < l)) (h3 : wrong evs ≠ 0) : (lng lv (.cons t l evs k r) s a).2.2 = wrong evs := by
  unfold lng
  rw [if_neg hs, if_neg h, if_pos h3]
theorem e_late (hs : ¬ 256 < s + 1) (h : ¬ (t < 0 ∨ 65536 < t ∨ l < 0 ∨ 65536 < l)) (h3 : ¬ wrong evs ≠ 0) (h4 : lateB l evs = true) : (lng lv (.cons t l evs k r) s a).2.2 = 8 := by
  unfold lng
  rw [if_neg hs, if_neg h, if_neg h3, if_pos h4]
theorem e_kids (hs : ¬ 256 < s + 1) (h : ¬ (t < 0 ∨ 65536 < t ∨ l < 0 ∨ 65536 < l)) (h3 : ¬ wrong evs ≠ 0) (h4 : ¬ lateB l evs = true) (h5 : ¬ (32 < lv + 1 ∧ 0 < k.len)) (h6 : (lng (lv + 1) k (s + 1) 0).2.2 ≠ 0) : (lng lv (.cons t l evs k r) s a).2.2 = (lng (lv + 1) k (s + 1) 0).2.2 := by
  obtain ⟨q, hq⟩ : ∃ q, lng (lv + 1) k (s + 1) 0 = q := ⟨_, rfl⟩
  rw [hq] at h6 ⊢
  unfold lng
  rw [if_neg hs, if_neg h, if_neg h3, if_neg h4]
  simp only
  rw [if_neg h5, hq, if_pos h6]
/-- The last one. -/
theorem e_last (hs : ¬ 256 < s + 1) (h : ¬ (t < 0 ∨ 65536 < t ∨ l < 0 ∨ 65536 < l)) (h3 : ¬ wrong evs ≠ 0) (h4 : ¬ lateB l evs = true) (h5 : ¬ (32 < lv + 1 ∧ 0 < k.len)) (h6 : ¬ (lng (lv + 1) k (s + 1) 0).2.2 ≠ 0) : (lng lv (.cons t l evs k .nil) s a).2.2 = if total < a + t * (l + (lng (lv + 1) k (s + 1) 0).1) then 4 else 0 := by
  obtain ⟨q, hq⟩ : ∃ q, lng (lv + 1) k (s + 1) 0 = q := ⟨_, rfl⟩
  rw [hq] at h6 ⊢
  unfold lng
  rw [if_neg hs, if_neg h, if_neg h3, if_neg h4]
  simp only
  rw [if_neg h5, hq, if_neg h6]
  split
  · rfl
  · rfl
end

/-- What is wrong is the same, or there are too many of them. -/
theorem times_err {n : Nat} (hn : 0 < n) (hn2 : n ≤ 50) (l : Int) (evs : List Ev) (k : For) : longE (cpy l evs k n) = longE (.cons (n : Int) l evs k .nil) ∨ longE (cpy l evs k n) = 5 := by
  obtain ⟨m, rfl⟩ : ∃ m, n = m + 1 := ⟨n - 1, by omega⟩
  rw [longE_eq, longE_eq]
  by_cases c2 : l < 0 ∨ 65536 < l
  · left
    simp only [cpy]
    rw [e_range (by omega) (by omega), e_range (by omega) (by omega)]
  by_cases c3 : wrong evs ≠ 0
  · left
    simp only [cpy]
    rw [e_wrong (by omega) (by omega) c3, e_wrong (by omega) (by omega) c3]
  by_cases c4 : lateB l evs = true
  · left
    simp only [cpy]
    rw [e_late (by omega) (by omega) c3 c4, e_late (by omega) (by omega) c3 c4]
  by_cases c6 : (lng (1 + 1) k (0 + 1) 0).2.2 ≠ 0
  · left
    simp only [cpy]
    rw [e_kids (by omega) (by omega) c3 c4 (by omega) c6, e_kids (by omega) (by omega) c3 c4 (by omega) c6]
  have hk0 : (lng (1 + 1) k (0 + 1) 0).2.2 = 0 := by omega
  have hK : 0 ≤ (lng (1 + 1) k (0 + 1) 0).1 := by
    obtain ⟨_, g2, _, g4⟩ := lng_fine (1 + 1) k (1 + 1) (0 + 1) 0 (by omega) (by unfold total; omega) hk0
    omega
  have hA : (lng 1 (.cons ((m + 1 : Nat) : Int) l evs k .nil) 0 0).2.2 = if total < 0 + ((m + 1 : Nat) : Int) * (l + (lng (1 + 1) k (0 + 1) 0).1) then 4 else 0 := by
    exact e_last (by omega) (by omega) c3 c4 (by omega) c6
  rw [hA]
  rcases cpy_lng (s0 := 0 + 1) c2 c3 c4 (by omega) hk0 hK (m + 1) 0 0 (by unfold total; omega) with h | ⟨h1, h2⟩ | ⟨h1, h2⟩
  · exact .inr h
  · left; rw [h1, if_pos h2]
  · left; rw [h1, if_neg (by omega)]

/-! ### in memory -/

/-- So many sections, each with these cells, are so many copies. -/
theorem cpy_rows {w : World} {l : Int} {evs : List Ev} {k : For} {ve vk : Value} {b : Nat} (hE : Evs w ve evs) (hK : Secs w vk k) : ∀ (n : Nat) (o : Nat), (∀ i, i < n → w.cell? ⟨b, o + i * 4, none⟩ = some (.int .i64 1) ∧ w.cell? ⟨b, o + i * 4 + 1, none⟩ = some (.int .i64 l) ∧ w.cell? ⟨b, o + i * 4 + 2, none⟩ = some ve ∧ w.cell? ⟨b, o + i * 4 + 3, none⟩ = some vk) → TRead.Rows w (cpy l evs k n) b o
  | 0, o, _ => trivial
  | n + 1, o, h => by
    obtain ⟨h0, h1, h2, h3⟩ := h 0 (by omega)
    rw [Nat.zero_mul, Nat.add_zero] at h0 h1 h2 h3
    refine ⟨⟨ve, vk, h0, h1, h2, h3, hE, ?_⟩, cpy_rows hE hK n (o + 4) (fun i hi => ?_)⟩
    · rcases hK with h | ⟨kb, ko, kc, h, hh⟩
      · exact .inl h
      · exact .inr ⟨kb, ko, kc, h, hh⟩
    · have := h (i + 1) (by omega)
      rw [show o + (i + 1) * 4 = o + 4 + i * 4 from by omega] at this
      exact this

def cpC (l : Int) (ve vk : Value) (n : Nat) : List Value := (List.replicate n [Value.int .i64 1, .int .i64 l, ve, vk]).flatten
theorem cpC_succ (l : Int) (ve vk : Value) (n : Nat) : cpC l ve vk (n + 1) = cpC l ve vk n ++ [Value.int .i64 1, .int .i64 l, ve, vk] := by
  unfold cpC
  rw [List.replicate_succ', List.flatten_append]
  rfl
theorem cpC_get (l : Int) (ve vk : Value) : ∀ (n i : Nat), i < n → (cpC l ve vk n)[i * 4]? = some (.int .i64 1) ∧ (cpC l ve vk n)[i * 4 + 1]? = some (.int .i64 l) ∧ (cpC l ve vk n)[i * 4 + 2]? = some ve ∧ (cpC l ve vk n)[i * 4 + 3]? = some vk
  | 0, i, h => absurd h (by omega)
  | n + 1, 0, _ => ⟨rfl, rfl, rfl, rfl⟩
  | n + 1, i + 1, h => by
    have := cpC_get l ve vk n i (by omega)
    have e : (i + 1) * 4 = i * 4 + 4 := by omega
    rw [e]
    unfold cpC at *
    rw [List.replicate_succ, List.flatten_cons]
    exact this

theorem cpy_secs {w : World} {l : Int} {evs : List Ev} {k : For} {ve vk : Value} {B : Nat} {v : Value} {n : Nat} (hE : Evs w ve evs) (hK : Secs w vk k) (h : w.ownsRow B 44 4 v n (cpC l ve vk n)) : Secs w v (cpy l evs k n) := by
  rcases h.2 with ⟨rfl, rfl⟩ | ⟨g, cap, cur, rfl, _, hgg, hc, hm1, hsz, ht⟩
  · exact .inl ⟨rfl, none, 0, rfl⟩
  · refine .inr ⟨g, 0, cap, by rw [cpy_len], cpy_rows hE hK n 0 (fun i hi => ?_)⟩
    obtain ⟨h0, h1, h2, h3⟩ := cpC_get l ve vk n i hi
    have key : ∀ j u, (cpC l ve vk n)[i * 4 + j]? = some u → j < 4 → w.cell? ⟨g, 0 + i * 4 + j, none⟩ = some u := by
      intro j u hu hj
      rw [Nat.zero_add, cell_of hgg]
      rw [← ht, List.getElem?_take, if_pos (by omega), Array.getElem?_toList] at hu
      exact hu
    exact ⟨key 0 _ h0 (by decide), key 1 _ h1 (by decide), key 2 _ h2 (by decide), key 3 _ h3 (by decide)⟩

theorem one_secs {w : World} {t l : Int} {evs : List Ev} {k : For} {ve vk : Value} {b : Nat} {c : Nat} (hE : Evs w ve evs) (hK : Secs w vk k) (h : w.heap[b]? = some (.cells #[.int .i64 t, .int .i64 l, ve, vk] 44 (0, 0))) : Secs w (.slice (some ⟨b, 0, none⟩) 1 c) (.cons t l evs k .nil) := by
  refine .inr ⟨b, 0, c, rfl, ⟨ve, vk, cell_of h 0, cell_of h 1, cell_of h 2, cell_of h 3, hE, ?_⟩, trivial⟩
  rcases hK with h | ⟨kb, ko, kc, h, hh⟩
  · exact .inl h
  · exact .inr ⟨kb, ko, kc, h, hh⟩
end Go.Proofs.Ythmcicmebaibgaa.TTm
