/- VoiceBlocks: what is known on the way. -/
import Derived.Test.YtadaegnkclleaaaVBlkM
import Derived.Test.YtadaegnkclleaaaVSings
import Derived.Test.YtadaegnkclleaaaVEndsL
namespace Go.Proofs.Ytadaegnkclleaaa.VBlk
open Go Go.RowKit Go.Proofs.Ytadaegnkclleaaa.VMod Go.Proofs.Ytadaegnkclleaaa.VWalk Go.Proofs.Ytadaegnkclleaaa.VSing Go.Proofs.Ytadaegnkclleaaa.VBlkM Go.Proofs.Ytadaegnkclleaaa.Hp Go.Proofs.Ytadaegnkclleaaa.Rd
set_option linter.unusedVariables false

def cz (l : List Nat) : List Int := l.map fun n : Nat => (n : Int)
def okN (l : List Nat) : Prop := ∀ n ∈ l, 1 ≤ n ∧ n ≤ 1000

/-- How far a list has been gone through. -/
def Pre (L : List Int) (i : Nat) (ms : List Nat) : Prop := L.take i = cz ms ∧ ms.length = i ∧ okN ms ∧ (0 < i → L.length ≤ 60)

theorem pre_start (L : List Int) : Pre L 0 [] := ⟨rfl, rfl, (fun n h => by cases h), (fun h => by omega)⟩

theorem pre_next {L : List Int} {i m : Nat} {ms : List Nat} (h : Pre L i ms) (hm : L[i]? = some (m : Int)) (h1 : 1 ≤ m) (h2 : m ≤ 1000) (h3 : L.length ≤ 60) : Pre L (i + 1) (ms ++ [m]) := by
  obtain ⟨a, b, c, d⟩ := h
  refine ⟨?_, by simp [b], fun n hn => ?_, fun _ => h3⟩
  · obtain ⟨hi, he⟩ := List.getElem?_eq_some_iff.1 hm
    rw [List.take_succ_eq_append_getElem hi, a, he]
    simp [cz]
  · rcases List.mem_append.1 hn with hn | hn
    · exact c n hn
    · simp only [List.mem_singleton] at hn; subst hn; exact ⟨h1, h2⟩

theorem pre_end {L : List Int} {ms : List Nat} (h : Pre L L.length ms) : L = cz ms ∧ okN ms ∧ ms.length ≤ 60 := by
  obtain ⟨a, b, c, d⟩ := h
  rw [List.take_of_length_le (Nat.le_refl _)] at a
  refine ⟨a, c, ?_⟩
  rcases Nat.eq_zero_or_pos L.length with h0 | h0
  · omega
  · have := d h0; omega

theorem gone_snoc (ms : List Nat) (m : Nat) : gonePieces (ms ++ [m]) = gonePieces ms ++ [if ms.length = 0 then -(m : Int) else (m : Int)] := by
  cases ms with
  | nil => rfl
  | cons a r => simp [gonePieces]

theorem cz_snoc (ms : List Nat) (m : Nat) : cz (ms ++ [m]) = cz ms ++ [(m : Int)] := by simp [cz]

theorem gone_len (ms : List Nat) : (gonePieces ms).length = ms.length := by cases ms <;> simp [gonePieces]

/-- What lies in memory: the patch, the two sums, the two lists. -/
structure Env (w : World) (p : Pt) (v1 v2 : Value) (g : Nat) (wr : World) (a0 a1 : Nat) : Prop where
  patch : wr.heap[g]? = some (.cells #[.int .i64 p.shape, .int .u32 p.step, .float .f64 p.gain, .int .i64 p.att, .int .i64 p.dec, .int .i64 p.rel, .int .i64 p.sus] 33 (0, 0))
  sums : wr.heap[g + 1]? = some (.cells #[.int .i64 a0, .int .i64 a1] 3 (0, 0))
  lists : wr.heap[g + 2]? = some (.cells #[v1, v2] 39 (0, 0))
  grown : w.grownBy wr none
  size : g + 3 ≤ wr.heap.size
  base : w.heap.size = g

section
variable {w : World} {p : Pt} {v1 v2 : Value} {g : Nat} {wr w' : World} {a0 a1 : Nat}

theorem Env.set0 (h : Env w p v1 v2 g wr a0 a1) (x : Nat) : Env w p v1 v2 g (wr.setCell ⟨g + 1, 0, none⟩ (.int .i64 (x : Int))) x a1 := by
  refine ⟨?_, ?_, ?_, grown_set h.grown (.inr (by have := h.base; dsimp only; omega)) _, by rw [size_set]; exact h.size, h.base⟩
  · rw [set_other (by dsimp only; omega)]; exact h.patch
  · rw [set_self (w := wr) (b := g + 1) (o := 0) h.sums]; rfl
  · rw [set_other (by dsimp only; omega)]; exact h.lists

theorem Env.set1 (h : Env w p v1 v2 g wr a0 a1) (x : Nat) : Env w p v1 v2 g (wr.setCell ⟨g + 1, 1, none⟩ (.int .i64 (x : Int))) a0 x := by
  refine ⟨?_, ?_, ?_, grown_set h.grown (.inr (by have := h.base; dsimp only; omega)) _, by rw [size_set]; exact h.size, h.base⟩
  · rw [set_other (by dsimp only; omega)]; exact h.patch
  · rw [set_self (w := wr) (b := g + 1) (o := 1) h.sums]; rfl
  · rw [set_other (by dsimp only; omega)]; exact h.lists

theorem grown_gr {B : Nat} {S : List TypeId} {a b : World} (h : w.grownBy a none) (hg : Gr B S a b) (hB : w.heap.size ≤ B) : w.grownBy b none :=
  ⟨hg.os.trans h.os, hg.tape.trans h.tape, hg.output.trans h.output, Nat.le_trans h.size hg.size, fun i hi _ => by
    rw [hg.block i (Nat.lt_of_lt_of_le hi h.size) (.inl (by omega))]
    exact h.block i hi (by simp)⟩

theorem Env.gr {S : List TypeId} (h : Env w p v1 v2 g wr a0 a1) (hg : Gr (g + 3) S wr w') : Env w p v1 v2 g w' a0 a1 :=
  ⟨hg.old h.patch (by omega), hg.old h.sums (by omega), hg.old h.lists (by omega), grown_gr h.grown hg (by have := h.base; omega), Nat.le_trans h.size hg.size, h.base⟩

theorem owns_sum {B : Nat} {e : TypeId} {v : Value} {n : Nat} {xs : List Value} (h : wr.ownsRow B e 1 v n xs) (o x : Nat) (hB : g + 1 < B) : (wr.setCell ⟨g + 1, o, none⟩ (.int .i64 (x : Int))).ownsRow B e 1 v n xs := by
  refine ⟨h.1, ?_⟩
  rcases h.2 with hn | ⟨b, cap, cur, hv, hb, hgg, rest⟩
  · exact .inl hn
  · exact .inr ⟨b, cap, cur, hv, hb, by rw [set_other (by dsimp only; omega)]; exact hgg, rest⟩
end

theorem own_low {w : World} {B : Nat} {e : TypeId} {sz : Nat} {v : Value} {n : Nat} {xs : List Value} (h : w.ownsRow B e sz v n xs) {b : Nat} (hb : v.ownBlock = some b) : B ≤ b := by
  rcases h.2 with ⟨rfl, _⟩ | ⟨b', cap, cur, rfl, hB, _⟩
  · cases hb
  · injection hb with hb
    subst hb
    exact hB

theorem app_grown {w0 w w' : World} {B : Nat} {e : TypeId} {sz : Nat} {v : Value} {n : Nat} {xs : List Value} (h0 : w0.grownBy w none) (hB : w0.heap.size ≤ B) (h : w.ownsRow B e sz v n xs) (hg : w.grownBy w' v.ownBlock) : w0.grownBy w' none := by
  cases hv : v.ownBlock with
  | none => rw [hv] at hg; exact grown_trans h0 hg
  | some b => rw [hv] at hg; exact grown_from h0 hg (.inl (Nat.le_trans hB (own_low h hv)))

theorem flat_le (ys : List (List Nat)) (h : ∀ y ∈ ys, y.length ≤ 65536) : ys.flatten.length ≤ ys.length * 65536 := by
  induction ys with
  | nil => simp
  | cons y ys ih =>
    have h1 := h y (by simp)
    have h2 := ih fun z hz => h z (by simp [hz])
    simp only [List.flatten_cons, List.length_append, List.length_cons, Nat.add_mul, Nat.one_mul]
    exact Nat.le_trans (Nat.add_le_add h1 h2) (Nat.le_of_eq (Nat.add_comm _ _))

theorem flat_take_le {ys : List (List Nat)} (h : ys.length ≤ 120 ∧ ∀ y ∈ ys, y.length ≤ 65536) (k : Nat) : (ys.take k).flatten.length ≤ 7864320 := by
  have h1 := flat_le (ys.take k) fun y hy => h.2 y (List.mem_of_mem_take hy)
  have h2 : (ys.take k).length ≤ 120 := by rw [List.length_take]; omega
  exact Nat.le_trans h1 (Nat.le_trans (Nat.mul_le_mul_right _ h2) (by decide))

theorem flat_next {ys : List (List Nat)} {k : Nat} {y : List Nat} (h : ys[k]? = some y) : (ys.take (k + 1)).flatten = (ys.take k).flatten ++ y := by
  obtain ⟨hi, he⟩ := List.getElem?_eq_some_iff.1 h
  rw [List.take_succ_eq_append_getElem hi, he, List.flatten_append, List.flatten_cons, List.flatten_nil, List.append_nil]

theorem fls_own {w : World} {B : Nat} {v : Value} {ys : List Nat} (h : w.ownsRow B 23 1 v ys.length (ys.map (Value.float .f64))) : Fls w v ys := by
  refine owns_sl h (by simp) fun i u x hu hx => ?_
  rw [List.getElem?_map, hx] at hu
  simpa using hu.symm

theorem info3 : (Try.prog.info? 3).map (fun i => (i.zero, i.size, i.bytes)) = some (some (.int .i64 0), 1, 8) := by kernel_rfl

def vi (l : List Int) : List Value := l.map fun n => Value.int .i64 n

end Go.Proofs.Ytadaegnkclleaaa.VBlk
