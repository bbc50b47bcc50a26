/- A reader of bytes: low. -/
import Derived.Test.YtffdglhjfpnbpaaWPack
import Derived.Test.YtffdglhjfpnbpaaWUMod
import Derived.Deep.QuietTactic
import Derived.IntWalk
namespace Go.Proofs.Ytffdglhjfpnbpaa.WLow
open Go Go.RowKit Go.Proofs.Ytffdglhjfpnbpaa.WMod Go.Proofs.Ytffdglhjfpnbpaa.WUMod Go.Proofs.Ytffdglhjfpnbpaa.Opn Go.Proofs.Ytffdglhjfpnbpaa.Hp Go.Proofs.Ytffdglhjfpnbpaa.Rd Go.Proofs.Ytffdglhjfpnbpaa.WWrong Go.Proofs.Ytffdglhjfpnbpaa.WWait Go.Proofs.Ytffdglhjfpnbpaa.WPack
set_option linter.unusedVariables false

def bl (s : ByteArray) : List Nat := s.data.toList.map UInt8.toNat

theorem bl_len (s : ByteArray) : (bl s).length = s.size := by unfold bl; rw [List.length_map, Array.length_toList]; rfl

theorem bl_get {s : ByteArray} {p : Nat} (h : p < s.size) : (bl s)[p]? = some s[p].toNat := by
  unfold bl
  rw [List.getElem?_map, Array.getElem?_toList, Array.getElem?_eq_getElem (show p < s.data.size from h)]
  rfl

theorem bl_none {s : ByteArray} {p : Nat} (h : s.size ≤ p) : (bl s)[p]? = none := by
  rw [List.getElem?_eq_none_iff, bl_len]; exact h

theorem bl_lt (s : ByteArray) : ∀ c ∈ bl s, c < 256 := by
  intro c hc
  unfold bl at hc
  obtain ⟨u, _, rfl⟩ := List.mem_map.1 hc
  exact u.toNat_lt

/-- A reader in memory. -/
def RAt (w : World) (g : Nat) (s : ByteArray) (p st : Nat) : Prop := w.heap[g]? = some (.cells #[.string s, .int .i64 p, .int .i64 st] 45 (0, 0))

theorem rat_drewN {w : World} {g : Nat} {s : ByteArray} {p st : Nat} (h : RAt w g s p st) (n : Nat) : RAt (w.drewN n) g s p st := h
theorem rat_set {w : World} {g : Nat} {s : ByteArray} {p st : Nat} (h : RAt w g s p st) (n q : Nat) : RAt ((w.drewN n).setCell ⟨g, 1, none⟩ (.int .i64 (q : Int))) g s q st := by
  unfold RAt
  rw [set_self (w := w.drewN n) (b := g) (o := 1) h]
  rfl

theorem ret2_int {a b : Int} {x y : Bool} (h : a = b) (h2 : x = y) : Ending.returned (.tuple #[.int .i64 a, .bool x]) = .returned (.tuple #[.int .i64 b, .bool y]) := by rw [h, h2]

def optV (o : Option Nat) : Value := .tuple #[.int .i64 ((o.getD 0 : Nat) : Int), .bool o.isSome]

set_option maxHeartbeats 800000 in
set_option maxRecDepth 100000 in
theorem low_calls (g : Nat) (s : ByteArray) (p st : Nat) (w : World) (h : RAt w g s p st) (hp : p ≤ s.size) (hs : s.size ≤ 140737488355328) :
    Calls Try.prog 22 #[.pointer (some ⟨g, 0, none⟩)] w fun e w' => e = .returned (optV (lowP (bl s) p).2) ∧ Hid (RAt w' g s (lowP (bl s) p).1 st) ∧ Hid (w.grownBy w' (some g)) := by
  have c0 : w.cell? ⟨g, 0, none⟩ = some (.string s) := cell_of h 0
  have c1 : w.cell? ⟨g, 1, none⟩ = some (.int .i64 p) := cell_of h 1
  have fr : w.frozen? ⟨g, 1, none⟩ = false := free_of h 1
  by_cases h1 : p = s.size
  · subst h1
    have e1 : lowP (bl s) s.size = (s.size, none) := by unfold lowP; rw [bl_none (by omega)]
    rw [e1]
    have H := Lib.hid h
    clear e1 h
    go_enter Try.func22, Try.ntmps22
    go_wp2_with fail
    go_quiet (fail)
    go_wp2_with fail
    go_ret2
    exact ⟨rfl, H.out, grown_drewN (grown_refl _ _) _⟩
  have h2 : ((p : Int) == (s.size : Int)) = false := by rw [beq_eq_false_iff_ne]; omega
  have hlt : p < s.size := by omega
  have g1 := bl_get hlt
  obtain ⟨c, hc⟩ : ∃ c, s[p].toNat = c := ⟨_, rfl⟩
  have hc8 : c < 256 := by rw [← hc]; exact s[p].toNat_lt
  rw [hc] at g1
  by_cases h3 : 127 < c
  · have e1 : lowP (bl s) p = (p, none) := by unfold lowP; rw [g1]; simp only; rw [if_pos h3]
    rw [e1]
    have H := Lib.hid h
    have h4 : decide ((127 : Int) < (c : Int)) = true := by simp; omega
    clear e1 h g1
    go_enter Try.func22, Try.ntmps22
    go_wp2_with fail
    go_quiet (fail)
    go_wp2_with fail
    go_ret2
    exact ⟨rfl, H.out, grown_drewN (grown_refl _ _) _⟩
  · have e1 : lowP (bl s) p = (p + 1, some c) := by unfold lowP; rw [g1]; simp only; rw [if_neg h3]
    rw [e1]
    have H := Lib.hid h
    have h4 : decide ((127 : Int) < (c : Int)) = false := by simp; omega
    clear e1 h g1
    go_enter Try.func22, Try.ntmps22
    go_wp2_with fail
    go_quiet (fail)
    go_wp2_with fail
    go_quiet (fail)
    go_wp2_with fail
    go_ret2
    exact ⟨rfl, rat_drewN (rat_set H.out _ _) _, grown_drewN (grown_set (grown_drewN (grown_refl _ _) _) (.inl rfl) _) _⟩

end Go.Proofs.Ytffdglhjfpnbpaa.WLow
