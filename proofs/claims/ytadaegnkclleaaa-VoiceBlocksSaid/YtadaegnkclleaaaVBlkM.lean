/- A voice in pieces or at once: the plain law. -/
import Derived.Test.YtadaegnkclleaaaVSing
namespace Go.Proofs.Ytadaegnkclleaaa.VBlkM
open Go Go.Proofs.Ytadaegnkclleaaa.VMod Go.Proofs.Ytadaegnkclleaaa.VWalk Go.Proofs.Ytadaegnkclleaaa.VSing

theorem after_add (p : Pt) (a b : Nat) (s : St) : after p (a + b) s = after p b (after p a s) := by
  induction a generalizing s with
  | zero => rw [Nat.zero_add]; rfl
  | succ a ih => rw [Nat.add_right_comm]; exact ih _

theorem play_add (p : Pt) (a b : Nat) (s : St) : (play p (a + b) s).1 = (play p a s).1 ++ (play p b (after p a s)).1 := by
  induction a generalizing s with
  | zero => rw [Nat.zero_add]; rfl
  | succ a ih =>
    rw [Nat.add_right_comm]
    show smp p s :: (play p (a + b) (next p s)).1 = smp p s :: (play p a (next p s)).1 ++ (play p b (after p a (next p s))).1
    rw [ih]
    rfl

theorem one_held (p : Pt) (s : St) {n : Nat} (h : n ≤ 65536) : outP p s (n : Int) = (play p n s).1 ∧ nextP p s (n : Int) = after p n s := by
  have hg : goodN (n : Int) = true := by unfold goodN askN; rw [if_neg (by omega)]; simp; omega
  have ha : askN (n : Int) = n := by unfold askN; rw [if_neg (by omega)]
  have hf : fromS p s (n : Int) = s := by unfold fromS; rw [if_neg (by omega)]
  unfold outP nextP
  rw [if_pos hg, if_pos hg, ha, hf, Int.toNat_natCast]
  exact ⟨rfl, rfl⟩

theorem one_gone (p : Pt) (s : St) {n : Nat} (h0 : 0 < n) (h : n ≤ 65536) : outP p s (-(n : Int)) = (play p n (offS p s)).1 ∧ nextP p s (-(n : Int)) = after p n (offS p s) := by
  have hg : goodN (-(n : Int)) = true := by unfold goodN askN; rw [if_pos (by omega), if_neg (by omega)]; simp; omega
  have ha : askN (-(n : Int)) = n := by unfold askN; rw [if_pos (by omega), if_neg (by omega)]; omega
  have hf : fromS p s (-(n : Int)) = offS p s := by unfold fromS; rw [if_pos (by omega)]
  unfold outP nextP
  rw [if_pos hg, if_pos hg, ha, hf, Int.toNat_natCast]
  exact ⟨rfl, rfl⟩

theorem held_run (p : Pt) (l : List Nat) (h : ∀ n ∈ l, n ≤ 1000) (r : List Int) (s : St) : (outsP p s (l.map (fun n : Nat => (n : Int)) ++ r)).flatten = (play p l.sum s).1 ++ (outsP p (after p l.sum s) r).flatten := by
  induction l generalizing s with
  | nil => rfl
  | cons n l ih =>
    have h1 := one_held p s (n := n) (by have := h n (by simp); omega)
    simp only [List.map_cons, List.cons_append, outsP, List.flatten_cons, List.sum_cons]
    rw [h1.1, h1.2, ih (fun m hm => h m (by simp [hm])), play_add, after_add, List.append_assoc]

/-- The pieces of a voice that is let go. -/
def gonePieces : List Nat → List Int
  | [] => []
  | g :: r => -(g : Int) :: r.map fun n : Nat => (n : Int)

theorem gone_run (p : Pt) (l : List Nat) (h : ∀ n ∈ l, 1 ≤ n ∧ n ≤ 1000) (hl : l.length ≤ 60) (s : St) : (outsP p s (gonePieces l)).flatten = (outsP p s [-(l.sum : Int)]).flatten := by
  cases l with
  | nil => 
    have h1 := one_held p s (n := 0) (by omega)
    simp only [gonePieces, outsP, List.flatten_nil, List.sum_nil, List.flatten_cons, List.append_nil]
    rw [show (-((0 : Nat) : Int)) = ((0 : Nat) : Int) from rfl, h1.1]
    rfl
  | cons g r =>
    have hg := h g (by simp)
    have hr : r.sum ≤ r.length * 1000 := by
      have : ∀ l : List Nat, (∀ n ∈ l, n ≤ 1000) → l.sum ≤ l.length * 1000 := by
        intro l
        induction l with
        | nil => intro _; simp
        | cons n l ih => intro hl; have := hl n (by simp); have := ih fun m hm => hl m (by simp [hm]); simp only [List.sum_cons, List.length_cons]; omega
      exact this r fun n hn => (h n (by simp [hn])).2
    simp only [List.length_cons] at hl
    have h1 := one_gone p s (n := g) (by omega) (by omega)
    have h2 := one_gone p s (n := (g :: r).sum) (by simp only [List.sum_cons]; omega) (by simp only [List.sum_cons]; omega)
    simp only [gonePieces, outsP, List.flatten_cons, List.flatten_nil, List.append_nil]
    rw [h1.1, h1.2, h2.1]
    have h3 := held_run p r (fun n hn => (h n (by simp [hn])).2) [] (after p g (offS p s))
    rw [List.append_nil] at h3
    rw [h3]
    simp only [outsP, List.flatten_nil, List.append_nil, List.sum_cons]
    rw [play_add]

theorem sum_le (l : List Nat) (h : ∀ n ∈ l, 1 ≤ n ∧ n ≤ 1000) (hl : l.length ≤ 60) : l.sum ≤ 60000 := by
  have : ∀ l : List Nat, (∀ n ∈ l, 1 ≤ n ∧ n ≤ 1000) → l.sum ≤ l.length * 1000 := by
    intro l
    induction l with
    | nil => intro _; simp
    | cons n l ih => intro hl; have := hl n (by simp); have := ih fun m hm => hl m (by simp [hm]); simp only [List.sum_cons, List.length_cons]; omega
  have := this l h
  omega

/-- In pieces or at once. -/
theorem blocks (p : Pt) (a b : List Nat) (ha : ∀ n ∈ a, 1 ≤ n ∧ n ≤ 1000) (hb : ∀ n ∈ b, 1 ≤ n ∧ n ≤ 1000) (la : a.length ≤ 60) (lb : b.length ≤ 60) :
    (outsP p st0 (a.map (fun n : Nat => (n : Int)) ++ gonePieces b)).flatten = (outsP p st0 [(a.sum : Int), -(b.sum : Int)]).flatten := by
  rw [held_run p a (fun n hn => (ha n hn).2), gone_run p b hb lb]
  have h1 := one_held p st0 (n := a.sum) (by have := sum_le a ha la; omega)
  simp only [outsP, List.flatten_cons, List.flatten_nil, List.append_nil]
  rw [h1.1, h1.2]

theorem blocks_len (p : Pt) (a b : Nat) (ha : a ≤ 60000) (hb : b ≤ 60000) : ((outsP p st0 [(a : Int), -(b : Int)]).flatten).length = a + b := by
  have h1 := one_held p st0 (n := a) (by omega)
  simp only [outsP, List.flatten_cons, List.flatten_nil, List.append_nil, List.length_append]
  rw [h1.1, play_len]
  by_cases h0 : b = 0
  · subst h0
    rw [show (-((0 : Nat) : Int)) = ((0 : Nat) : Int) from rfl, (one_held p _ (n := 0) (by omega)).1, play_len]
  · rw [(one_gone p _ (n := b) (by omega) (by omega)).1, play_len]

end Go.Proofs.Ytadaegnkclleaaa.VBlkM
