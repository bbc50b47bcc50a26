/- A disk in memory, its methods; an edit without what its kind does not use; its words. -/
import Derived.Test.YtdnmimfichijgaaKTk
import Derived.Test.YtdnmimfichijgaaKRead
import Derived.Test.YtdnmimfichijgaaKWrong
import Derived.Deep.RegionWith
namespace Go.Proofs.Ytdnmimfichijgaa.KDisk
open Go Go.RowKit Go.Proofs.Ytdnmimfichijgaa.KMod Go.Proofs.Ytdnmimfichijgaa.KTk Go.Proofs.Ytdnmimfichijgaa.KRead Go.Proofs.Ytdnmimfichijgaa.Hp Go.Proofs.Ytdnmimfichijgaa.Rd Go.Proofs.Ytdnmimfichijgaa.Opn
set_option linter.unusedVariables false
set_option linter.unusedSimpArgs false

/-- A disk lies in block db, its words in block wb. -/
structure DkR (w : World) (db wb : Nat) (sa : Option Addr) (cap : Nat) (d : Dk) : Prop where
  st : w.heap[db]? = some (.cells #[.slice sa d.words.length cap, .int .i64 d.left, .bool false] 52 (0, 0))
  row : d.words = [] ∨ (sa = some ⟨wb, 0, none⟩ ∧ db ≠ wb ∧ ∃ cur : Array Value, w.heap[wb]? = some (.cells cur 2 (0, 0)) ∧ ∀ (i : Nat) (x : Int), d.words[i]? = some x → cur[i]? = some (.int .i64 x))
  left : -9223372036854775808 ≤ d.left ∧ d.left < 9223372036854775808
  small : d.words.length < 1152921504606846976
  lt : wb < w.heap.size

/-- The blocks of a disk. -/
def XD (db wb : Nat) : Nat → Prop := fun b => b = db ∨ b = wb

section
variable {w w' : World} {db wb cap : Nat} {sa : Option Addr} {d : Dk}
theorem DkR.fr {X : Nat → Prop} (h : DkR w db wb sa cap d) (hf : Fr X w w') (hx : ∀ b, X b → ¬ XD db wb b) : DkR w' db wb sa cap d := by
  refine ⟨hf.row h.st (fun hb => hx _ hb (.inl rfl)), ?_, h.left, h.small, Nat.lt_of_lt_of_le h.lt hf.size⟩
  rcases h.row with h1 | ⟨h1, hn, cur, h2, h3⟩
  · exact .inl h1
  · exact .inr ⟨h1, hn, cur, hf.row h2 (fun hb => hx _ hb (.inr rfl)), h3⟩
theorem DkR.grown (h : DkR w db wb sa cap d) (hg : w.grownBy w' none) : DkR w' db wb sa cap d := h.fr (.none hg) (X := fun _ => False) (fun _ h => h.elim)
theorem DkR.open (h : DkR w db wb sa cap d) {i : Nat} {x : Int} (hx : d.words[i]? = some x) : sa = some ⟨wb, 0, none⟩ ∧ db ≠ wb ∧ ∃ cur : Array Value, w.heap[wb]? = some (.cells cur 2 (0, 0)) ∧ cur[i]? = some (.int .i64 x) ∧ ∀ (i : Nat) (x : Int), d.words[i]? = some x → cur[i]? = some (.int .i64 x) := by
  rcases h.row with h1 | ⟨h1, hn, cur, h2, h3⟩
  · rw [h1] at hx; cases hx
  · exact ⟨h1, hn, cur, h2, h3 i x hx, h3⟩
end

set_option maxHeartbeats 1000000 in
theorem size_calls (db wb cap : Nat) (sa : Option Addr) (d : Dk) (w : World) (h : DkR w db wb sa cap d) :
    Calls Try.prog 58 #[.pointer (some ⟨db, 0, none⟩)] w fun e w' => e = .returned (.int .i64 (d.words.length : Int)) ∧ Hid (w.grownBy w' none) := by
  have h0 := cell_of h.st 0
  have HS := Lib.hid h
  clear h
  go_enter Try.func58, Try.ntmps58
  go_wp2_with fail
  go_ret
  exact ⟨rfl, grown_refl _ _⟩

set_option maxHeartbeats 1000000 in
theorem get_calls (db wb cap : Nat) (sa : Option Addr) (d : Dk) (i : Nat) (x : Int) (w : World) (h : DkR w db wb sa cap d) (hx : d.words[i]? = some x) :
    Calls Try.prog 56 #[.pointer (some ⟨db, 0, none⟩), .int .i64 (i : Int)] w fun e w' => e = .returned (.int .i64 x) ∧ Hid (w.grownBy w' none) := by
  have h0 := cell_of h.st 0
  obtain ⟨rfl, _, cur, hw, hc, _⟩ := h.open hx
  have h1 := (cell_of hw i).trans hc
  have hi := (List.getElem?_eq_some_iff.1 hx).1
  obtain ⟨n, hn⟩ : ∃ n, d.words.length = n := ⟨_, rfl⟩
  simp only [hn] at h0 hi
  have hi2 : (i : Int) < (n : Int) := by omega
  have hi3 : ¬ (n : Int) ≤ (i : Int) := by omega
  have hi4 : ¬ (i : Int) < 0 := by omega
  have HS := Lib.hid h
  clear h hw hc hx
  go_enter Try.func56, Try.ntmps56
  go_wp2_with fail
  go_ret
  exact ⟨rfl, grown_refl _ _⟩

/-- The disk behind a word that was put. -/
theorem DkR.put {w : World} {db wb cap : Nat} {sa : Option Addr} {d : Dk} {i : Nat} {y : Int} (h : DkR w db wb sa cap d) (hx : d.words[i]? = some y) (x l : Int) (hl : -9223372036854775808 ≤ l ∧ l < 9223372036854775808) :
    DkR ((w.setCell ⟨db, 1, none⟩ (.int .i64 l)).setCell ⟨wb, i, none⟩ (.int .i64 x)) db wb sa cap ⟨d.words.set i x, l⟩ := by
  obtain ⟨hs, hn, cur, h2, h3, h4⟩ := h.open hx
  have hcl : i < cur.size := (Array.getElem?_eq_some_iff.1 h3).1
  have hdl : i < d.words.length := (List.getElem?_eq_some_iff.1 hx).1
  refine ⟨?_, .inr ⟨hs, hn, cur.setIfInBounds i (.int .i64 x), ?_, fun j u hu => ?_⟩, hl, by simp; exact h.small, by rw [size_set, size_set]; exact h.lt⟩
  · rw [set_other (by exact hn), List.length_set]
    exact set_self h.st _
  · refine set_self ?_ _
    rw [set_other (by exact fun e => hn e.symm)]
    exact h2
  · simp only at hu
    rw [List.getElem?_set] at hu
    by_cases hij : i = j
    · subst hij
      rw [if_pos rfl, if_pos hdl] at hu
      cases hu
      exact Array.getElem?_setIfInBounds_self_of_lt hcl
    · rw [if_neg hij] at hu
      rw [Array.getElem?_setIfInBounds_ne hij]
      exact h4 j u hu
theorem DkR.put0 {w : World} {db wb cap : Nat} {sa : Option Addr} {d : Dk} {i : Nat} {y : Int} (h : DkR w db wb sa cap d) (hx : d.words[i]? = some y) (x : Int) :
    DkR (w.setCell ⟨wb, i, none⟩ (.int .i64 x)) db wb sa cap ⟨d.words.set i x, d.left⟩ := by
  obtain ⟨hs, hn, cur, h2, h3, h4⟩ := h.open hx
  have hcl : i < cur.size := (Array.getElem?_eq_some_iff.1 h3).1
  have hdl : i < d.words.length := (List.getElem?_eq_some_iff.1 hx).1
  refine ⟨?_, .inr ⟨hs, hn, cur.setIfInBounds i (.int .i64 x), set_self h2 _, fun j u hu => ?_⟩, h.left, by simp; exact h.small, by rw [size_set]; exact h.lt⟩
  · rw [set_other (by exact hn), List.length_set]
    exact h.st
  · simp only at hu
    rw [List.getElem?_set] at hu
    by_cases hij : i = j
    · subst hij
      rw [if_pos rfl, if_pos hdl] at hu
      cases hu
      exact Array.getElem?_setIfInBounds_self_of_lt hcl
    · rw [if_neg hij] at hu
      rw [Array.getElem?_setIfInBounds_ne hij]
      exact h4 j u hu
theorem fr_set {X : Nat → Prop} {a b : World} (h : Fr X a b) {p : Addr} (hp : X p.block ∨ a.heap.size ≤ p.block) (v : Value) : Fr X a (b.setCell p v) :=
  ⟨h.os, h.tape, h.output, by rw [size_set]; exact h.size, fun i hi hx => by
    rw [set_other (fun e => by
      subst e
      rcases hp with hp | hp
      · exact hx hp
      · omega) v]
    exact h.block i hi hx⟩
theorem fr_drewN {X : Nat → Prop} {a b : World} (h : Fr X a b) (n : Nat) : Fr X a (b.drewN n) := ⟨h.os, h.tape, h.output, h.size, h.block⟩

set_option maxHeartbeats 1000000 in
theorem put_calls (db wb cap : Nat) (sa : Option Addr) (d : Dk) (i : Nat) (x y : Int) (w : World) (h : DkR w db wb sa cap d) (hx : d.words[i]? = some y) :
    Calls Try.prog 57 #[.pointer (some ⟨db, 0, none⟩), .int .i64 (i : Int), .int .i64 x] w fun e w' => e = .returned (.bool (putD d i x).2) ∧ Hid (DkR w' db wb sa cap (putD d i x).1) ∧ Hid (Fr (XD db wb) w w') := by
  have h0 := cell_of h.st 0
  have h1 := cell_of h.st 1
  have z1 := free_of h.st 1
  have HS := Lib.hid h
  have HX := Lib.hid hx
  have HP0 := Lib.hid (h.put0 hx x)
  have HP1 := Lib.hid (h.put hx x (d.left - 1))
  have hleft := h.left
  obtain ⟨rfl, hne, cur, hw, hc, _⟩ := h.open hx
  have h2 := (cell_of hw i).trans hc
  have z2 := free_of hw i
  have hi := (List.getElem?_eq_some_iff.1 hx).1
  obtain ⟨n, hn⟩ : ∃ n, d.words.length = n := ⟨_, rfl⟩
  obtain ⟨L, hL⟩ : ∃ L, d.left = L := ⟨_, rfl⟩
  have HL := Lib.hid hL
  simp only [hn, hL] at h0 h1 hi hleft HP1
  have hi2 : (i : Int) < (n : Int) := by omega
  have hi3 : ¬ (n : Int) ≤ (i : Int) := by omega
  have hi4 : ¬ (i : Int) < 0 := by omega
  have HNE := Lib.hid hne
  clear h hw hc hx hL hn
  by_cases hl0 : L = 0
  · have HF : Hid (putD d i x = (d, false)) := by unfold Hid putD; rw [if_pos (by rw [HL.out]; exact hl0)]
    subst hl0
    go_enter Try.func57, Try.ntmps57
    go_wp2_with fail
    go_ret
    exact ⟨by rw [HF.out]; rfl, by rw [HF.out]; exact HS.out, Fr.refl _ _⟩
  by_cases hlp : 0 < L
  · have HF : Hid (putD d i x = (⟨d.words.set i x, L - 1⟩, true)) := by unfold Hid putD; rw [if_neg (by rw [HL.out]; exact hl0), HL.out, if_pos hlp]
    have hw1 : IntKind.i64.wrap (L - 1) = L - 1 := IntWalk.i64_in _ (by omega)
    have HPP := Lib.hid (HP1.out (by omega))
    clear HP0 HP1
    go_enter Try.func57, Try.ntmps57
    go_wp2_with fail
    go_ret
    exact ⟨by rw [HF.out]; rfl, by rw [HF.out]; exact HPP.out, fr_set (fr_set (Fr.refl _ _) (.inl (.inl rfl)) _) (.inl (.inr rfl)) _⟩
  · have HF : Hid (putD d i x = (⟨d.words.set i x, d.left⟩, true)) := by unfold Hid putD; rw [if_neg (by rw [HL.out]; exact hl0), if_neg (by rw [HL.out]; exact hlp)]
    clear HP1
    go_enter Try.func57, Try.ntmps57
    go_wp2_with fail
    go_ret
    exact ⟨by rw [HF.out]; rfl, by rw [HF.out]; exact HP0.out, fr_set (Fr.refl _ _) (.inl (.inr rfl)) _⟩

set_option maxHeartbeats 1000000 in
theorem plain_calls (e : Ed) (w : World) :
    Calls Try.prog 25 #[.agg #[.int .i64 e.do_, .int .i64 e.n, .int .i64 e.t.at_, .int .i64 e.t.long, .int .i64 e.t.lt, .int .i64 e.t.al, .int .i64 e.t.oc]] w fun r w' => r = .returned (.agg #[.int .i64 (plainE e).do_, .int .i64 (plainE e).n, .int .i64 (plainE e).t.at_, .int .i64 (plainE e).t.long, .int .i64 (plainE e).t.lt, .int .i64 (plainE e).t.al, .int .i64 (plainE e).t.oc]) ∧ Hid (w.grownBy w' none) := by
  obtain ⟨D, N, ⟨ta, tl, tt, tal, to_⟩⟩ := e
  have HP : Hid (plainE ⟨D, N, ⟨ta, tl, tt, tal, to_⟩⟩ = if D = 1 then ⟨1, 0, ⟨ta, tl, tt, tal, to_⟩⟩ else if D = 2 then ⟨2, N, tone0⟩ else ⟨D, 0, tone0⟩) := rfl
  simp only
  have G : Hid (∀ k : Nat, ∀ o1 o2 : Obj, w.grownBy (((w.alloc o1).alloc o2)) none) := fun _ _ _ => grown_alloc (grown_alloc (grown_refl _ _) _) _
  have hnn := Nat.succ_ne_self w.heap.size
  by_cases h1 : D = 1
  · rw [if_pos h1] at HP
    subst h1
    go_enter Try.func25, Try.ntmps25
    go_wp2_with fail
    refine bodyPost_ret (v := .agg #[.int .i64 1, .int .i64 0, .int .i64 ta, .int .i64 tl, .int .i64 tt, .int .i64 tal, .int .i64 to_]) (by simp [results, Try.results25, go_sem]) rfl ⟨by rw [HP.out], G.out 0 _ _⟩
  · rw [if_neg h1] at HP
    by_cases h2 : D = 2
    · rw [if_pos h2] at HP
      subst h2
      clear h1
      go_enter Try.func25, Try.ntmps25
      go_wp2_with fail
      refine bodyPost_ret (v := .agg #[.int .i64 2, .int .i64 N, .int .i64 0, .int .i64 0, .int .i64 0, .int .i64 0, .int .i64 0]) (by simp [results, Try.results25, go_sem]) rfl ⟨by rw [HP.out]; rfl, G.out 0 _ _⟩
    · rw [if_neg h2] at HP
      go_enter Try.func25, Try.ntmps25
      go_wp2_with fail
      refine bodyPost_ret (v := .agg #[.int .i64 D, .int .i64 0, .int .i64 0, .int .i64 0, .int .i64 0, .int .i64 0, .int .i64 0]) (by simp [results, Try.results25, go_sem]) rfl ⟨by rw [HP.out]; rfl, G.out 0 _ _⟩

theorem alloc3 (w : World) (a b c : Obj) : Hid ((((w.alloc a).alloc b).alloc c).heap[w.heap.size + 1 + 1]? = some c) := by
  unfold Hid
  have h := heap_alloc_new ((w.alloc a).alloc b) c
  have e : ((w.alloc a).alloc b).heap.size = w.heap.size + 1 + 1 := by simp
  rw [e] at h
  exact h
set_option maxHeartbeats 1000000 in
theorem words_calls (e : Ed) (w : World) :
    Calls Try.prog 26 #[.agg #[.int .i64 e.do_, .int .i64 e.n, .int .i64 e.t.at_, .int .i64 e.t.long, .int .i64 e.t.lt, .int .i64 e.t.al, .int .i64 e.t.oc]] w fun r w' => ∃ g, r = .returned (.slice (some ⟨g, 0, none⟩) 8 8) ∧ Hid (w'.heap[g]? = some (.cells #[.int .i64 1, .int .i64 e.do_, .int .i64 e.n, .int .i64 e.t.at_, .int .i64 e.t.long, .int .i64 e.t.lt, .int .i64 e.t.al, .int .i64 e.t.oc] 2 (0, 0))) ∧ Hid (w.heap.size ≤ g) ∧ Hid (w.grownBy w' none) := by
  obtain ⟨D, N, ⟨ta, tl, tt, tal, to_⟩⟩ := e
  simp only
  have hnn := Nat.succ_ne_self w.heap.size
  go_enter Try.func26, Try.ntmps26
  go_wp2_with fail
  go_ret
  refine ⟨_, rfl, ?_, ?_, grown_alloc (grown_alloc (grown_alloc (grown_refl _ _) _) _) _⟩
  · exact alloc3 _ _ _ _
  · show w.heap.size ≤ w.heap.size + 1 + 1
    omega
end Go.Proofs.Ytdnmimfichijgaa.KDisk
