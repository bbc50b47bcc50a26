/- Events have one code: the plain law. -/
import Derived.Test.YtffdglhjfpnbpaaWUMod
namespace Go.Proofs.Ytffdglhjfpnbpaa.WTMod
open Go Go.Proofs.Ytffdglhjfpnbpaa.WMod Go.Proofs.Ytffdglhjfpnbpaa.WUMod

theorem drop_get {b : List Nat} {p c : Nat} (h : b[p]? = some c) : b.drop p = c :: b.drop (p + 1) := by
  obtain ⟨hp, hc⟩ := List.getElem?_eq_some_iff.1 h
  rw [List.drop_eq_getElem_cons hp, hc]

theorem get_drop {b r : List Nat} {p c : Nat} (h : b.drop p = c :: r) : b[p]? = some c ∧ b.drop (p + 1) = r := by
  have h1 : (b.drop p)[0]? = some c := by rw [h]; rfl
  rw [List.getElem?_drop] at h1
  refine ⟨h1, ?_⟩
  have h2 : (b.drop p).drop 1 = r := by rw [h]; rfl
  rw [List.drop_drop] at h2
  exact h2

theorem w4 (b : List Nat) (n p : Nat) : waitP b 4 n p = match b[p]? with
    | none => (p, none)
    | some c => if c = 128 then (p, none) else if c < 128 then (p + 1, some (n * 128 + c % 128)) else waitP b 3 (n * 128 + c % 128) (p + 1) := by
  conv => lhs; unfold waitP
  cases b[p]? with
  | none => rfl
  | some c => simp

theorem w3 (b : List Nat) (n p : Nat) : waitP b 3 n p = match b[p]? with
    | none => (p, none)
    | some c => if c < 128 then (p + 1, some (n * 128 + c % 128)) else waitP b 2 (n * 128 + c % 128) (p + 1) := by
  conv => lhs; unfold waitP
  cases b[p]? with
  | none => rfl
  | some c => simp

theorem w2 (b : List Nat) (n p : Nat) : waitP b 2 n p = match b[p]? with
    | none => (p, none)
    | some c => if c < 128 then (p + 1, some (n * 128 + c % 128)) else waitP b 1 (n * 128 + c % 128) (p + 1) := by
  conv => lhs; unfold waitP
  cases b[p]? with
  | none => rfl
  | some c => simp

theorem w1 (b : List Nat) (n p : Nat) : waitP b 1 n p = match b[p]? with
    | none => (p, none)
    | some c => if c < 128 then (p + 1, some (n * 128 + c % 128)) else (p, none) := by
  conv => lhs; unfold waitP
  cases b[p]? with
  | none => rfl
  | some c => 
    simp only [true_and]
    by_cases h : c < 128
    · rw [if_pos h, if_neg (by omega), if_pos h]
    · rw [if_pos (by omega), if_neg h]

theorem wait1 {n : Nat} (h : n < 128) : waitB n = [n] := by
  unfold waitB
  rw [if_neg (by omega), if_neg (by omega), if_neg (by omega), Nat.mod_eq_of_lt h]
  rfl

theorem wait2 {x y : Nat} (h0 : 128 < x) (h1 : x < 256) (h2 : y < 128) : waitB ((0 * 128 + x % 128) * 128 + y % 128) = [x, y] := by
  unfold waitB
  rw [if_neg (by omega), if_neg (by omega), if_pos (by omega)]
  simp only [List.nil_append, List.cons_append, List.cons.injEq, and_true]
  omega

theorem wait3 {x y z : Nat} (h0 : 128 < x) (h1 : x < 256) (h2 : 128 ≤ y) (h3 : y < 256) (h4 : z < 128) : waitB (((0 * 128 + x % 128) * 128 + y % 128) * 128 + z % 128) = [x, y, z] := by
  unfold waitB
  rw [if_neg (by omega), if_pos (by omega), if_pos (by omega)]
  simp only [List.nil_append, List.cons_append, List.cons.injEq, and_true]
  omega

theorem wait4 {x y z u : Nat} (h0 : 128 < x) (h1 : x < 256) (h2 : 128 ≤ y) (h3 : y < 256) (h4 : 128 ≤ z) (h5 : z < 256) (h6 : u < 128) : waitB ((((0 * 128 + x % 128) * 128 + y % 128) * 128 + z % 128) * 128 + u % 128) = [x, y, z, u] := by
  unfold waitB
  rw [if_pos (by omega), if_pos (by omega), if_pos (by omega)]
  simp only [List.nil_append, List.cons_append, List.cons.injEq, and_true]
  omega

/-- What is read of a number is its bytes. -/
theorem waitP_back {b : List Nat} (hb : ∀ c ∈ b, c < 256) {p q n : Nat} (h : waitP b 4 0 p = (q, some n)) : n < 268435456 ∧ b.drop p = waitB n ++ b.drop q := by
  rw [w4] at h
  split at h
  · simp at h
  rename_i c0 h0
  have m0 := hb c0 (List.mem_of_getElem? h0)
  split at h
  · simp at h
  rename_i g0
  split at h
  · rename_i l0
    simp only [Prod.mk.injEq, Option.some.injEq] at h
    obtain ⟨rfl, rfl⟩ := h
    refine ⟨by omega, ?_⟩
    rw [drop_get h0, wait1 (by omega)]
    simp only [List.cons_append, List.nil_append, List.cons.injEq, and_true]
    omega
  rename_i l0
  rw [w3] at h
  split at h
  · simp at h
  rename_i c1 h1
  have m1 := hb c1 (List.mem_of_getElem? h1)
  split at h
  · rename_i l1
    simp only [Prod.mk.injEq, Option.some.injEq] at h
    obtain ⟨rfl, rfl⟩ := h
    refine ⟨by omega, ?_⟩
    rw [drop_get h0, drop_get h1, wait2 (by omega) (by omega) (by omega)]
    rfl
  rename_i l1
  rw [w2] at h
  split at h
  · simp at h
  rename_i c2 h2
  have m2 := hb c2 (List.mem_of_getElem? h2)
  split at h
  · rename_i l2
    simp only [Prod.mk.injEq, Option.some.injEq] at h
    obtain ⟨rfl, rfl⟩ := h
    refine ⟨by omega, ?_⟩
    rw [drop_get h0, drop_get h1, drop_get h2, wait3 (by omega) (by omega) (by omega) (by omega) (by omega)]
    rfl
  rename_i l2
  rw [w1] at h
  split at h
  · simp at h
  rename_i c3 h3
  have m3 := hb c3 (List.mem_of_getElem? h3)
  split at h
  · rename_i l3
    simp only [Prod.mk.injEq, Option.some.injEq] at h
    obtain ⟨rfl, rfl⟩ := h
    refine ⟨by omega, ?_⟩
    rw [drop_get h0, drop_get h1, drop_get h2, drop_get h3, wait4 (by omega) (by omega) (by omega) (by omega) (by omega) (by omega) (by omega)]
    rfl
  · simp at h

/-- A number's bytes are read as it. -/
theorem waitP_forth {b r : List Nat} {p n : Nat} (hn : n < 268435456) (h : b.drop p = waitB n ++ r) : waitP b 4 0 p = (p + (waitB n).length, some n) ∧ b.drop (p + (waitB n).length) = r := by
  have key : b.drop (p + (waitB n).length) = r := by
    rw [← List.drop_drop, h, List.drop_append_of_le_length (Nat.le_refl _), List.drop_length]
    rfl
  refine ⟨?_, key⟩
  clear key
  by_cases q3 : 0 < n / 2097152
  · have e : waitB n = [n / 2097152 % 128 + 128, n / 16384 % 128 + 128, n / 128 % 128 + 128, n % 128] := by
      unfold waitB
      rw [if_pos q3, if_pos (by omega), if_pos (by omega)]
      rfl
    rw [e] at h ⊢
    simp only [List.cons_append, List.nil_append] at h
    obtain ⟨a0, h⟩ := get_drop h
    obtain ⟨a1, h⟩ := get_drop h
    obtain ⟨a2, h⟩ := get_drop h
    obtain ⟨a3, h⟩ := get_drop h
    rw [w4, a0]
    simp only
    rw [if_neg (by omega), if_neg (by omega), w3, a1]
    simp only
    rw [if_neg (by omega), w2, a2]
    simp only
    rw [if_neg (by omega), w1, a3]
    simp only
    rw [if_pos (by omega)]
    simp only [List.length_cons, List.length_nil, Prod.mk.injEq, Option.some.injEq]
    refine ⟨?_, ?_⟩ <;> first | trivial | omega
  by_cases q2 : 0 < n / 16384
  · have e : waitB n = [n / 16384 % 128 + 128, n / 128 % 128 + 128, n % 128] := by
      unfold waitB
      rw [if_neg q3, if_pos q2, if_pos (by omega)]
      rfl
    rw [e] at h ⊢
    simp only [List.cons_append, List.nil_append] at h
    obtain ⟨a1, h⟩ := get_drop h
    obtain ⟨a2, h⟩ := get_drop h
    obtain ⟨a3, h⟩ := get_drop h
    rw [w4, a1]
    simp only
    rw [if_neg (by omega), if_neg (by omega), w3, a2]
    simp only
    rw [if_neg (by omega), w2, a3]
    simp only
    rw [if_pos (by omega)]
    simp only [List.length_cons, List.length_nil, Prod.mk.injEq, Option.some.injEq]
    refine ⟨?_, ?_⟩ <;> first | trivial | omega
  by_cases q1 : 0 < n / 128
  · have e : waitB n = [n / 128 % 128 + 128, n % 128] := by
      unfold waitB
      rw [if_neg q3, if_neg q2, if_pos q1]
      rfl
    rw [e] at h ⊢
    simp only [List.cons_append, List.nil_append] at h
    obtain ⟨a2, h⟩ := get_drop h
    obtain ⟨a3, h⟩ := get_drop h
    rw [w4, a2]
    simp only
    rw [if_neg (by omega), if_neg (by omega), w3, a3]
    simp only
    rw [if_pos (by omega)]
    simp only [List.length_cons, List.length_nil, Prod.mk.injEq, Option.some.injEq]
    refine ⟨?_, ?_⟩ <;> first | trivial | omega
  · rw [wait1 (by omega)] at h ⊢
    obtain ⟨a3, h⟩ := get_drop h
    rw [w4, a3]
    simp only
    rw [if_neg (by omega), if_pos (by omega)]
    simp only [List.length_cons, List.length_nil, Prod.mk.injEq, Option.some.injEq]
    refine ⟨?_, ?_⟩ <;> first | trivial | omega

def stOk (st : Nat) : Prop := st = 0 ∨ 128 ≤ st ∧ st < 256 ∧ dataN ((st / 16 : Nat) : Int) ≠ 0

def tailB (s x y : Nat) : List Nat := x :: if dataN ((s / 16 : Nat) : Int) = 2 then [y] else []

theorem data0 : dataN ((0 / 16 : Nat) : Int) = 0 := by decide

theorem data_two {k : Int} (h : dataN k ≠ 0) (h2 : dataN k ≠ 2) : dataN k = 1 := by
  unfold dataN at *
  split at h
  · exfalso; rename_i q; rw [if_pos q] at h2; exact h2 rfl
  · split at h
    · rename_i q1 q2; rw [if_neg q1, if_pos q2]
    · exact absurd rfl h

theorem eventP_back {b : List Nat} (hb : ∀ c ∈ b, c < 256) {st p q s x y : Nat} (hst : stOk st) (h : eventP b st p = (q, s, some (x, y))) :
    (128 ≤ s ∧ s < 256 ∧ dataN ((s / 16 : Nat) : Int) ≠ 0) ∧ x < 128 ∧ y < 128 ∧ (dataN ((s / 16 : Nat) : Int) = 1 → y = 0) ∧ b.drop p = (if s = st then [] else [s]) ++ (tailB s x y ++ b.drop q) := by
  unfold eventP at h
  split at h
  · simp at h
  · rename_i q0 s0 h0
    split at h
    · simp at h
    · rename_i hd0
      have k0 : (128 ≤ s0 ∧ s0 < 256) ∧ b.drop p = (if s0 = st then [] else [s0]) ++ b.drop q0 := by
        unfold statP at h0
        split at h0
        · simp at h0
          obtain ⟨rfl, rfl⟩ := h0
          refine ⟨?_, by simp⟩
          rcases hst with h | h
          · subst h; exact absurd data0 hd0
          · omega
        · rename_i c hc
          have mc := hb c (List.mem_of_getElem? hc)
          split at h0
          · split at h0
            · simp at h0
            · rename_i g1 g2
              simp at h0
              obtain ⟨rfl, rfl⟩ := h0
              simp only [not_or] at g2
              refine ⟨by omega, ?_⟩
              rw [if_neg g2.2, drop_get hc]
              rfl
          · simp at h0
            obtain ⟨rfl, rfl⟩ := h0
            refine ⟨?_, by simp⟩
            rcases hst with h | h
            · subst h; exact absurd data0 hd0
            · omega
      split at h
      · simp at h
      · rename_i q1 x1 h1
        obtain ⟨_, _, rfl, h1, hx⟩ := lowP_le h1
        split at h
        · rename_i h2
          split at h
          · simp at h
          · rename_i q2 y2 hy
            obtain ⟨_, _, rfl, hy1, hy2⟩ := lowP_le hy
            simp at h
            obtain ⟨rfl, rfl, rfl, rfl⟩ := h
            refine ⟨⟨k0.1.1, k0.1.2, hd0⟩, hx, hy2, (fun h1 => by rw [h1] at h2; cases h2), ?_⟩
            rw [k0.2, tailB, if_pos h2, drop_get h1, drop_get hy1]
            rfl
        · rename_i h2
          simp at h
          obtain ⟨rfl, rfl, rfl, rfl⟩ := h
          refine ⟨⟨k0.1.1, k0.1.2, hd0⟩, hx, by omega, (fun _ => rfl), ?_⟩
          rw [k0.2, tailB, if_neg h2, drop_get h1]
          rfl

theorem eventP_forth {b r : List Nat} {st p s x y : Nat} (hs : 128 ≤ s ∧ s < 256 ∧ dataN ((s / 16 : Nat) : Int) ≠ 0) (hx : x < 128) (hy : y < 128) (h1 : dataN ((s / 16 : Nat) : Int) = 1 → y = 0)
    (h : b.drop p = (if s = st then [] else [s]) ++ (tailB s x y ++ r)) : ∃ q, eventP b st p = (q, s, some (x, y)) ∧ b.drop q = r := by
  have k0 : ∃ q0, statP b st p = (q0, some s) ∧ b.drop q0 = tailB s x y ++ r := by
    by_cases e : s = st
    · rw [if_pos e] at h
      subst e
      refine ⟨p, ?_, h⟩
      unfold tailB at h
      simp only [List.nil_append, List.cons_append] at h
      obtain ⟨a0, _⟩ := get_drop h
      unfold statP
      rw [a0]
      simp only
      rw [if_neg (by omega)]
    · rw [if_neg e] at h
      simp only [List.cons_append, List.nil_append] at h
      obtain ⟨a0, h2⟩ := get_drop h
      refine ⟨p + 1, ?_, h2⟩
      unfold statP
      rw [a0]
      simp only
      rw [if_pos (by omega), if_neg (by simp only [not_or]; exact ⟨hs.2.2, e⟩)]
  obtain ⟨q0, e0, h2⟩ := k0
  unfold eventP
  rw [e0]
  simp only
  rw [if_neg hs.2.2]
  unfold tailB at h2
  simp only [List.cons_append] at h2
  obtain ⟨a0, h3⟩ := get_drop h2
  have el : lowP b q0 = (q0 + 1, some x) := by
    unfold lowP
    rw [a0]
    simp only
    rw [if_neg (by omega)]
  rw [el]
  simp only
  by_cases d2 : dataN ((s / 16 : Nat) : Int) = 2
  · rw [if_pos d2]
    rw [if_pos d2] at h3
    simp only [List.cons_append, List.nil_append] at h3
    obtain ⟨a1, h4⟩ := get_drop h3
    have el2 : lowP b (q0 + 1) = (q0 + 1 + 1, some y) := by
      unfold lowP
      rw [a1]
      simp only
      rw [if_neg (by omega)]
    rw [el2]
    exact ⟨_, rfl, h4⟩
  · rw [if_neg d2]
    rw [if_neg d2] at h3
    have hy0 := h1 (data_two hs.2.2 d2)
    subst hy0
    exact ⟨_, rfl, h3⟩

theorem evOf_st (last n s x y : Nat) : stE (evOf last n s x y) = (s : Int) := by
  unfold stE evOf
  simp only
  omega

theorem evOf_pack {last n st s x y : Nat} : packE (last : Int) (st : Int) (evOf last n s x y) = waitB n ++ ((if s = st then [] else [s]) ++ tailB s x y) := by
  unfold packE
  rw [evOf_st]
  have e1 : ((evOf last n s x y).at_ - (last : Int)).toNat = n := by unfold evOf; simp only; omega
  rw [e1]
  by_cases e : s = st
  · subst e
    simp only [evOf, tailB, Int.toNat_natCast, if_true]
    rfl
  · rw [if_neg e, if_neg (by omega)]
    simp only [evOf, tailB, Int.toNat_natCast]
    rfl

theorem evOf_ok {last n s x y : Nat} (hn : n < 268435456) (hs : 128 ≤ s ∧ s < 256 ∧ dataN ((s / 16 : Nat) : Int) ≠ 0) (hx : x < 128) (hy : y < 128) (h1 : dataN ((s / 16 : Nat) : Int) = 1 → y = 0) : wrongE (last : Int) (evOf last n s x y) = 0 := by
  unfold wrongE
  rw [if_neg (show ¬ dataN (evOf last n s x y).kind = 0 from hs.2.2), if_neg, if_neg, if_neg]
  · unfold evOf; simp only; omega
  · unfold evOf; simp only; omega
  · unfold badE sevenB evOf
    simp only [not_or, Bool.and_eq_false_iff, decide_eq_false_iff_not]
    refine ⟨by omega, by omega, by omega, by omega, ?_⟩
    rintro ⟨e, g⟩
    exact g (by rw [h1 e]; rfl)

theorem unpackP_back {b : List Nat} (hb : ∀ c ∈ b, c < 256) : ∀ (f p last st : Nat) (acc out : List Ev), b.length - p < f → p ≤ b.length → stOk st → acc.length ≤ 4096 → unpackP b f p last st acc = .ok out →
    ∃ es, out = acc ++ es ∧ out.length ≤ 4096 ∧ wrongL (last : Int) es = 0 ∧ packL (last : Int) (st : Int) es = b.drop p := by
  intro f
  induction f with
  | zero => intro p last st acc out h; omega
  | succ f ih =>
    intro p last st acc out hf hp hst hacc h
    unfold unpackP at h
    split at h
    · rename_i hle
      simp only [Except.ok.injEq] at h
      subst h
      refine ⟨[], by simp, hacc, rfl, ?_⟩
      rw [List.drop_eq_nil_of_le hle]
      rfl
    · split at h
      · cases h
      · rename_i h4096
        split at h
        · cases h
        · rename_i q n hw
          have k1 := waitP_le _ _ _ _ _ _ hw
          obtain ⟨hn, hd⟩ := waitP_back hb hw
          split at h
          · cases h
          · rename_i q2 s x y he
            have k2 := eventP_le he
            obtain ⟨hs, hx, hy, h1, hd2⟩ := eventP_back hb hst he
            obtain ⟨es, ho, hl, hwl, hpk⟩ := ih q2 (last + n) s _ out (by omega) k2.2 (.inr hs) (by simp; omega) h
            refine ⟨evOf last n s x y :: es, by rw [ho]; simp, hl, ?_, ?_⟩
            · unfold wrongL
              rw [if_pos (evOf_ok hn hs hx hy h1)]
              exact hwl
            · unfold packL
              rw [evOf_st, evOf_pack]
              rw [show (evOf last n s x y).at_ = ((last + n : Nat) : Int) from rfl, hpk, hd, hd2]
              simp [List.append_assoc]

/-- An event that is right is one that can be read. -/
theorem ev_of_ok {last : Nat} {e : Ev} (h : wrongE (last : Int) e = 0) : ∃ n s x y, e = evOf last n s x y ∧ n < 268435456 ∧ (128 ≤ s ∧ s < 256 ∧ dataN ((s / 16 : Nat) : Int) ≠ 0) ∧ x < 128 ∧ y < 128 ∧ (dataN ((s / 16 : Nat) : Int) = 1 → y = 0) := by
  unfold wrongE at h
  split at h
  · cases h
  · rename_i h0
    split at h
    · cases h
    · rename_i h1
      split at h
      · cases h
      · split at h
        · cases h
        · rename_i h2 h3
          unfold badE sevenB at h1
          simp only [not_or, Bool.and_eq_false_iff, decide_eq_false_iff_not, not_and, Decidable.not_not] at h1
          obtain ⟨a1, a2, a3, a4, a5⟩ := h1
          have hk : 8 ≤ e.kind ∧ e.kind ≤ 14 := by
            unfold dataN at h0
            split at h0
            · omega
            · split at h0
              · omega
              · exact absurd rfl h0
          have ek : (((stE e).toNat / 16 : Nat) : Int) = e.kind := by unfold stE; omega
          refine ⟨(e.at_ - last).toNat, (stE e).toNat, e.a.toNat, e.b.toNat, ?_, by omega, ⟨by unfold stE; omega, by unfold stE; omega, by rw [ek]; exact h0⟩, by omega, by omega, ?_⟩
          · obtain ⟨at_, kind, ch, a, b⟩ := e
            unfold evOf stE
            simp only at *
            congr 1 <;> omega
          · intro h; rw [ek] at h; have := a5 h; omega

theorem unpackP_forth {b : List Nat} : ∀ (es : List Ev) (f p last st : Nat) (acc : List Ev), b.length - p < f → acc.length + es.length ≤ 4096 → wrongL (last : Int) es = 0 → b.drop p = packL (last : Int) (st : Int) es →
    unpackP b f p last st acc = .ok (acc ++ es) := by
  intro es
  induction es with
  | nil =>
    intro f p last st acc hf _ _ h
    obtain ⟨f, rfl⟩ : ∃ g, f = g + 1 := ⟨f - 1, by omega⟩
    have : b.length ≤ p := by
      simp only [packL] at h
      exact List.drop_eq_nil_iff.1 h
    unfold unpackP
    rw [if_pos this]
    simp
  | cons e es ih =>
    intro f p last st acc hf hl hw h
    obtain ⟨f, rfl⟩ : ∃ g, f = g + 1 := ⟨f - 1, by omega⟩
    unfold wrongL at hw
    split at hw
    · rename_i he
      obtain ⟨n, s, x, y, rfl, hn, hs, hx, hy, h1⟩ := ev_of_ok he
      unfold packL at h
      rw [evOf_st, evOf_pack, show (evOf last n s x y).at_ = ((last + n : Nat) : Int) from rfl, List.append_assoc] at h
      rw [show (evOf last n s x y).at_ = ((last + n : Nat) : Int) from rfl] at hw
      obtain ⟨e1, h2⟩ := waitP_forth hn h
      rw [List.append_assoc] at h2
      obtain ⟨q2, e2, h3⟩ := eventP_forth hs hx hy h1 h2
      have k1 := waitP_le _ _ _ _ _ _ e1
      have k2 := eventP_le e2
      simp only [List.length_cons] at hl
      unfold unpackP
      rw [if_neg (by omega), if_neg (by omega), e1]
      simp only
      rw [e2]
      simp only
      rw [ih f q2 (last + n) s _ (by omega) (by simp; omega) hw h3]
      simp
    · rename_i he; exact absurd hw he

theorem unpack_pack {es : List Ev} (h : wrong es = 0) : unpack (packL 0 0 es) = .ok es := by
  unfold wrong at h
  split at h
  · cases h
  · rename_i hl
    exact unpackP_forth es _ 0 0 0 [] (by omega) (by simp; omega) h rfl

theorem pack_unpack {b : List Nat} (hb : ∀ c ∈ b, c < 256) {es : List Ev} (h : unpack b = .ok es) : wrong es = 0 ∧ packL 0 0 es = b := by
  obtain ⟨es', ho, hl, hw, hp⟩ := unpackP_back hb _ 0 0 0 [] es (by omega) (by omega) (.inl rfl) (by simp) h
  rw [List.nil_append] at ho
  subst ho
  refine ⟨?_, hp⟩
  unfold wrong
  rw [if_neg (by omega)]
  exact hw

end Go.Proofs.Ytffdglhjfpnbpaa.WTMod
