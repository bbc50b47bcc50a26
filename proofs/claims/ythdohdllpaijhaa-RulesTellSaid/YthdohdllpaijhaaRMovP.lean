/- What the law's premises give, also where a sum runs over: plain. -/
import Derived.Test.YthdohdllpaijhaaRMovL
import Derived.Test.YthdohdllpaijhaaRLaw
namespace Go.Proofs.Ythdohdllpaijhaa.RMovP
open Go Go.RowKit Go.Proofs.Ythdohdllpaijhaa.RMod Go.Proofs.Ythdohdllpaijhaa.RMov Go.Proofs.Ythdohdllpaijhaa.RMovL Go.Proofs.Ythdohdllpaijhaa.RBits Go.Proofs.Ythdohdllpaijhaa.RFnd Go.Proofs.Ythdohdllpaijhaa.RLaw Go.Proofs.Ythdohdllpaijhaa.RCount
set_option linter.unusedVariables false

/-- What is found lies within the keys. -/
theorem find_keys (r : Ru) (g : List Int) : ∀ z ∈ findL r g, 0 ≤ z ∧ z ≤ 127 := by
  by_cases h0 : wrongR r g = 0
  · unfold findL
    rw [if_pos h0]
    cases hf : findC r g with
    | none => intro z hz; simp at hz
    | some x =>
      obtain ⟨_, h2, _⟩ := (find_law r g g.length 0 (-1) false (by omega)).2 x hf
      have hk := cont_keys r g (okG_of h0).rules x _ _ _ h2
      intro z hz
      have := List.all_eq_true.1 hk z (by simpa using hz)
      unfold keyB at this
      simpa using this
  · unfold findL
    rw [if_neg h0]
    intro z hz
    simp at hz

theorem find_len (r : Ru) (g : List Int) : (findL r g).length ≤ g.length := by
  by_cases h0 : wrongR r g = 0
  · unfold findL
    rw [if_pos h0]
    cases hf : findC r g with
    | none => simp
    | some x =>
      obtain ⟨h1, _, _⟩ := (find_law r g g.length 0 (-1) false (by omega)).2 x hf
      simp [h1]
  · unfold findL
    rw [if_neg h0]
    simp

def upS (r : Ru) (b sl sh : Int) : Ru := ⟨sl, sh, r.above, r.leap, bitsUp r.classes b 12⟩

theorem all_of {r : Ru} {g : List Int} {b sl sh : Int} (hb : 1 ≤ b ∧ b ≤ 127) (h0 : 0 ≤ r.low) (hl : r.low ≤ r.high) (hl7 : r.low ≤ 127) (hm : r.high ≤ 9223372036854775807) (hsl : wrap64 (r.low + b) = sl) (hsh : wrap64 (r.high + b) = sh) (hs : sh ≤ 127)
    (hc : 0 ≤ r.classes ∧ r.classes ≤ 4095) (hg : ∀ k ∈ g, 0 ≤ k ∧ k ≤ 127 - b) :
    wrongR (upS r b sl sh) (g.map (· + b)) = wrongR r g ∧ cntV (upS r b sl sh) (g.map (· + b)) = cntV r g ∧ findE (upS r b sl sh) (g.map (· + b)) = findE r g ∧ findL (upS r b sl sh) (g.map (· + b)) = (findL r g).map (· + b) := by
  have hsl' : sl = r.low + b := by unfold wrap64 at hsl; omega
  by_cases hh : r.high + b ≤ 127
  · have hsh' : sh = r.high + b := by unfold wrap64 at hsh; omega
    have e : upS r b sl sh = upR r b := by unfold upS upR; rw [hsl', hsh']
    rw [e]
    have hw := wrong_moved (by omega) h0 hl hh hc hg
    exact ⟨hw, (moved_of (by omega) h0).all hw⟩
  · have hbig : 127 < r.high := by unfold wrap64 at hsh; omega
    have hneg : sh < sl := by unfold wrap64 at hsh; omega
    have hw : wrongR (upS r b sl sh) (g.map (· + b)) = wrongR r g := by
      have k1 : g.all keyB = true := by
        rw [List.all_eq_true]
        intro k hk
        have := hg k hk
        unfold keyB
        rw [decide_eq_true (by omega), decide_eq_true (by omega)]
        rfl
      have k2 : (g.map (· + b)).all keyB = true := by
        rw [List.all_eq_true]
        intro k hk
        obtain ⟨k', hk', rfl⟩ := List.mem_map.1 hk
        have := hg k' hk'
        unfold keyB
        rw [decide_eq_true (by omega), decide_eq_true (by omega)]
        rfl
      unfold wrongR
      rw [List.length_map, k1, k2]
      have e1 : ¬ okR (upS r b sl sh) := by
        unfold okR upS
        simp only
        omega
      have e2 : ¬ okR r := by unfold okR; omega
      simp only [e1, e2]
    have hn : wrongR r g ≠ 0 := by
      intro h
      have := (okG_of h).rules
      unfold okR at this
      omega
    refine ⟨hw, ?_, ?_, ?_⟩
    · unfold cntV; rw [hw, if_neg hn, if_neg hn]
    · unfold findE; rw [hw, if_neg hn, if_neg hn]
    · unfold findL; rw [hw, if_neg hn, if_neg hn]; rfl

end Go.Proofs.Ythdohdllpaijhaa.RMovP
