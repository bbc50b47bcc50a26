/- Ways, counted forward: the same as counted backward. Plain. -/
import Derived.Test.YthdohdllpaijhaaRCnt
namespace Go.Proofs.Ythdohdllpaijhaa.RWayP
open Go Go.Proofs.Ythdohdllpaijhaa.RMod Go.Proofs.Ythdohdllpaijhaa.RCnt
set_option linter.unusedVariables false
set_option linter.unusedSimpArgs false

abbrev St := Int × Bool

/-- The states, one behind the other: a key, and whether the one ahead of it is the same. -/
def st (j : Nat) : St := (((j / 2 : Nat) : Int), decide (j % 2 = 1))
theorem st_even (l : Nat) : st (2 * l) = ((l : Int), false) := by
  unfold st
  rw [show 2 * l / 2 = l from by omega, show 2 * l % 2 = 0 from by omega]
  rfl
theorem st_odd (l : Nat) : st (2 * l + 1) = ((l : Int), true) := by
  unfold st
  rw [show (2 * l + 1) / 2 = l from by omega, show (2 * l + 1) % 2 = 1 from by omega]
  rfl

/-- A sum over the first states. -/
def S (f : St → Nat) : Nat → Nat
  | 0 => 0
  | j + 1 => S f j + f (st j)

theorem S_congr {f h : St → Nat} : ∀ {m : Nat}, (∀ j, j < m → f (st j) = h (st j)) → S f m = S h m
  | 0, _ => rfl
  | m + 1, e => by
    unfold S
    rw [S_congr fun j hj => e j (by omega), e m (by omega)]
theorem S_zero {f : St → Nat} {m : Nat} (h : ∀ j, j < m → f (st j) = 0) : S f m = 0 := by
  induction m with
  | zero => rfl
  | succ m ih => unfold S; rw [ih fun j hj => h j (by omega), h m (by omega)]
theorem S_add (f h : St → Nat) : ∀ m, S (fun s => f s + h s) m = S f m + S h m
  | 0 => rfl
  | m + 1 => by unfold S; rw [S_add f h m]; omega
theorem S_mulr (f : St → Nat) (c : Nat) : ∀ m, S (fun s => f s * c) m = S f m * c
  | 0 => by simp [S]
  | m + 1 => by unfold S; rw [S_mulr f c m, Nat.add_mul]
theorem S_mull (f : St → Nat) (c : Nat) : ∀ m, S (fun s => c * f s) m = c * S f m
  | 0 => by simp [S]
  | m + 1 => by unfold S; rw [S_mull f c m, Nat.mul_add]
theorem S_swap (f : St → St → Nat) (n : Nat) : ∀ m, S (fun t => S (fun s => f s t) n) m = S (fun s => S (fun t => f s t) m) n
  | 0 => (S_zero (f := fun s => S (fun t => f s t) 0) fun j _ => rfl).symm
  | m + 1 => by
    rw [S, S_swap f n m, ← S_add]
    rfl
theorem S_sat {f h : St → Nat} (e : ∀ s, min (f s) cap = min (h s) cap) : ∀ m, min (S f m) cap = min (S h m) cap
  | 0 => rfl
  | m + 1 => by
    have h1 := S_sat e m
    have h2 := e (st m)
    unfold S
    omega

theorem sat_mul (a b : Nat) : min (min a cap * b) cap = min (a * b) cap := by
  by_cases h : a ≤ cap
  · rw [Nat.min_eq_left h]
  · have e : min a cap = cap := by omega
    rw [e]
    rcases Nat.eq_zero_or_pos b with rfl | hb
    · rw [Nat.mul_zero, Nat.mul_zero]
    · have h1 : cap ≤ cap * b := Nat.le_mul_of_pos_right _ hb
      have h2 : a ≤ a * b := Nat.le_mul_of_pos_right _ hb
      omega

/-! ### all states, and those within the rules -/

def T (h : Nat → Nat) : Nat → Nat
  | 0 => 0
  | m + 1 => T h m + h m
theorem T_add (h : Nat → Nat) (a : Nat) : ∀ c, T h (a + c) = T h a + T (fun j => h (a + j)) c
  | 0 => rfl
  | c + 1 => by
    show T h (a + c) + h (a + c) = T h a + (T (fun j => h (a + j)) c + h (a + c))
    rw [T_add h a c]; omega
theorem T_zero {h : Nat → Nat} {m : Nat} (e : ∀ j, j < m → h j = 0) : T h m = 0 := by
  induction m with
  | zero => rfl
  | succ m ih => unfold T; rw [ih fun j hj => e j (by omega), e m (by omega)]
theorem S_T (f : St → Nat) : ∀ m, S f (2 * m) = T (fun l => f ((l : Int), false) + f ((l : Int), true)) m
  | 0 => rfl
  | m + 1 => by
    rw [show 2 * (m + 1) = 2 * m + 1 + 1 from by omega, S, S, S_T f m, st_even, st_odd, T]
    omega
theorem sumL_T (r : Ru) (f : St → Nat) : sumL (uni r) f = T (fun j => f (r.low + (j : Int), false) + f (r.low + (j : Int), true)) (r.high - r.low + 1).toNat := by
  unfold uni
  generalize (r.high - r.low + 1).toNat = m
  induction m with
  | zero => rfl
  | succ m ih =>
    unfold sumL at *
    rw [List.range_succ, List.flatMap_append, List.map_append, List.sum_append, ih]
    simp [T]

theorem S_uni {r : Ru} (hr : okR r) {f : St → Nat} (hf : ∀ k s, (k < r.low ∨ r.high < k) → f (k, s) = 0) : S f 256 = sumL (uni r) f := by
  obtain ⟨h0, h1, h2, _⟩ := hr
  obtain ⟨a, ha⟩ : ∃ a : Nat, r.low = a := ⟨r.low.toNat, by omega⟩
  obtain ⟨c, hc⟩ : ∃ c : Nat, (r.high - r.low + 1).toNat = c := ⟨_, rfl⟩
  rw [sumL_T, hc, show 256 = 2 * (a + (c + (128 - a - c))) from by omega, S_T, T_add, T_add]
  rw [T_zero (m := a) (fun j hj => by rw [hf _ _ (.inl (by omega)), hf _ _ (.inl (by omega))])]
  rw [T_zero (m := 128 - a - c) (fun j hj => by rw [hf _ _ (.inr (by omega)), hf _ _ (.inr (by omega))])]
  rw [Nat.zero_add, Nat.add_zero]
  congr 1
  funext j
  rw [ha, Int.natCast_add]

/-! ### forward -/

/-- What a state gives to another one at a place. -/
def cF (r : Ru) (g : List Int) (at_ : Nat) (F : St → Nat) (t s : St) : Nat := if okT r g (g.length - 1 - at_) t s.1 s.2 then F s else 0
/-- .. of the first states. -/
def nF (r : Ru) (g : List Int) (at_ : Nat) (F : St → Nat) (j : Nat) (t : St) : Nat := min (S (cF r g at_ F t) j) cap
def waysC (r : Ru) (g : List Int) : Nat → Nat → (St → Nat) → Nat
  | 0, _, F => min (S F 256) cap
  | m + 1, i, F => waysC r g m (i + 1) (nF r g i F 256)

/-- In how many ways a line goes on. -/
def bk (r : Ru) (g : List Int) : Nat → St → Nat
  | 0, _ => 1
  | d + 1, s => S (fun t => if okT r g d t s.1 s.2 then bk r g d t else 0) 256

theorem ways_eq (r : Ru) (g : List Int) : ∀ (m i : Nat) (F : St → Nat), i + m = g.length → waysC r g m i F = min (S (fun s => F s * bk r g m s) 256) cap
  | 0, i, F, _ => by
    show min (S F 256) cap = min (S (fun s => F s * 1) 256) cap
    rw [S_congr (f := F) (h := fun s => F s * 1) fun j _ => (Nat.mul_one _).symm]
  | m + 1, i, F, h => by
    unfold waysC
    rw [ways_eq r g m (i + 1) _ (by omega)]
    unfold nF
    rw [S_sat (f := fun s => min (S (cF r g i F s) 256) cap * bk r g m s) (h := fun s => S (cF r g i F s) 256 * bk r g m s) (fun s => sat_mul _ _)]
    refine congrArg (fun z => min z cap) ?_
    have e1 : S (fun t => S (cF r g i F t) 256 * bk r g m t) 256 = S (fun t => S (fun s => cF r g i F t s * bk r g m t) 256) 256 :=
      S_congr fun j _ => (S_mulr _ _ _).symm
    rw [e1, S_swap]
    refine S_congr fun j _ => ?_
    rw [bk, ← S_mull]
    refine S_congr fun q _ => ?_
    unfold cF
    rw [show g.length - 1 - i = m from by omega]
    split <;> simp

theorem okT_range {r : Ru} {g : List Int} {d : Nat} {t : St} {k : Int} {s : Bool} (h : okT r g d t k s = true) : r.low ≤ t.1 ∧ t.1 ≤ r.high := by
  unfold okT at h
  simp only [Bool.and_eq_true, beq_iff_eq] at h
  exact alone_range h.1.2

theorem on_bk {r : Ru} (hr : okR r) (g : List Int) : ∀ (d : Nat) (k : Int) (s : Bool), onC r g d k s = min (bk r g d (k, s)) cap
  | 0, _, _ => rfl
  | d + 1, k, s => by
    unfold onC bk
    rw [S_uni hr (fun k' s' h' => if_neg fun h => by have := okT_range h; simp only at this; omega)]
    rw [← S_uni hr, ← S_uni hr]
    · refine S_sat (fun t => ?_) 256
      obtain ⟨k', s'⟩ := t
      by_cases h : okT r g d (k', s') k s = true
      · rw [if_pos h, if_pos h, on_bk hr g d]
        simp only
        omega
      · rw [if_neg h, if_neg h]
    · intro k' s' h'
      exact if_neg fun h => by have := okT_range h; simp only at this; omega
    · intro k' s' h'
      exact if_neg fun h => by have := okT_range h; simp only at this; omega

/-- From nothing on. -/
def F1 (r : Ru) (g : List Int) (s : St) : Nat := if s.2 = false ∧ aloneZ r g 0 s.1 = 0 then 1 else 0
theorem ways_count {r : Ru} {g : List Int} (hr : okR r) (hg : 1 ≤ g.length) : waysC r g (g.length - 1) 1 (F1 r g) = countC r g := by
  rw [ways_eq r g _ _ _ (by omega)]
  unfold countC
  rw [← S_uni hr]
  · refine S_sat (fun t => ?_) 256
    obtain ⟨k, s⟩ := t
    unfold F1 tabC
    simp only
    rw [show g.length - 1 - (g.length - 1) = 0 from by omega]
    cases s
    · by_cases h : aloneZ r g 0 k = 0
      · simp only [h, and_self, if_true, Nat.one_mul]
        rw [on_bk hr]
        omega
      · simp [h]
    · simp
  · intro k s h
    cases s
    · simp only [if_true]
      unfold tabC
      rw [if_neg]
      intro h'
      rw [show g.length - 1 - (g.length - 1) = 0 from by omega] at h'
      have := alone_range h'
      omega
    · rfl

/-- From a state on. -/
def Fi (k : Int) (b : Bool) (s : St) : Nat := if s = (k, b) then 1 else 0
theorem st_inj {i j : Nat} (e : st i = st j) : i = j := by
  unfold st at e
  simp only [Prod.mk.injEq, decide_eq_decide] at e
  omega
theorem S_one (f : St → Nat) (j : Nat) : ∀ m, j < m → S (fun s => if s = st j then f s else 0) m = f (st j)
  | m + 1, h => by
    unfold S
    by_cases hj : j = m
    · subst hj
      have hz : S (fun s => if s = st j then f s else 0) j = 0 := S_zero fun i hi => if_neg fun e => by have := st_inj e; omega
      rw [hz, if_pos rfl, Nat.zero_add]
    · rw [S_one f j m (by omega), if_neg (fun e => by have := st_inj e; omega), Nat.add_zero]

theorem ways_from {r : Ru} {g : List Int} (hr : okR r) {k : Int} {b : Bool} (hk : 0 ≤ k ∧ k ≤ 127) {i : Nat} (hi : i ≤ g.length) : waysC r g (g.length - i) i (Fi k b) = onC r g (g.length - i) k b := by
  rw [ways_eq r g _ _ _ (by omega), on_bk hr]
  refine congrArg (fun z => min z cap) ?_
  obtain ⟨n, rfl⟩ : ∃ n : Nat, k = n := ⟨k.toNat, by omega⟩
  have key : ∀ j, j < 256 → st j = ((n : Int), b) → S (fun s => Fi (n : Int) b s * bk r g (g.length - i) s) 256 = bk r g (g.length - i) ((n : Int), b) := fun j hj e => by
    have := S_one (bk r g (g.length - i)) j 256 hj
    rw [e] at this
    rw [← this]
    refine S_congr fun q _ => ?_
    unfold Fi
    split <;> simp
  cases b
  · exact key (2 * n) (by omega) (st_even n)
  · exact key (2 * n + 1) (by omega) (st_odd n)

theorem nF_le (r : Ru) (g : List Int) (i : Nat) (F : St → Nat) (j : Nat) (t : St) : nF r g i F j t ≤ cap := Nat.min_le_right _ _
theorem nF_zero (r : Ru) (g : List Int) (i : Nat) (F : St → Nat) (t : St) : nF r g i F 0 t = 0 := rfl
theorem nF_step (r : Ru) (g : List Int) (i : Nat) (F : St → Nat) (j : Nat) (t : St) : nF r g i F (j + 1) t = min (nF r g i F j t + cF r g i F t (st j)) cap := by
  show min (S (cF r g i F t) j + cF r g i F t (st j)) cap = min (min (S (cF r g i F t) j) cap + cF r g i F t (st j)) cap
  rw [min_step]
theorem nF_same {r : Ru} {g : List Int} {i : Nat} {F : St → Nat} {j : Nat} {t : St} (h : cF r g i F t (st j) = 0) : nF r g i F (j + 1) t = nF r g i F j t := by
  rw [nF_step, h, Nat.add_zero, Nat.min_eq_left (nF_le _ _ _ _ _ _)]
end Go.Proofs.Ythdohdllpaijhaa.RWayP
