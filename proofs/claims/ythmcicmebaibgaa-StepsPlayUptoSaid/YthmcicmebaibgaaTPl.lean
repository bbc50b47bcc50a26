/- What is played of sections, time by time: plain. -/
import Derived.Test.YthmcicmebaibgaaTSz
namespace Go.Proofs.Ythmcicmebaibgaa.TPl
open Go Go.Proofs.Ythmcicmebaibgaa.WMod Go.Proofs.Ythmcicmebaibgaa.TMod Go.Proofs.Ythmcicmebaibgaa.TSz
set_option linter.unusedVariables false

/-- So many times, each behind the one ahead of it. -/
def repF (P : Int → List Ev) (o : Int) : Nat → Int → List Ev
  | 0, _ => []
  | n + 1, a => P a ++ repF P o n (a + o)

/-- One time of a section. -/
def oneF (l : Int) (evs : List Ev) (k : For) (b : Int) : List Ev := evs.map (shift b) ++ playF k (b + l)
/-- A section. -/
def secF (t l : Int) (evs : List Ev) (k : For) (a : Int) : List Ev := repF (oneF l evs k) (l + dur k) t.toNat a

theorem repF_add (P : Int → List Ev) (o : Int) : ∀ (m n : Nat) (a : Int), repF P o (m + n) a = repF P o m a ++ repF P o n (a + m * o)
  | 0, n, a => by simp [repF]
  | m + 1, n, a => by
    rw [show m + 1 + n = (m + n) + 1 from by omega]
    simp only [repF]
    rw [repF_add P o m n (a + o), List.append_assoc]
    congr 3
    rw [Int.natCast_add, Int.add_mul]
    simp
    omega

theorem repF_flat (P : Int → List Ev) (o : Int) : ∀ (n : Nat) (a : Int), ((List.range n).flatMap fun j : Nat => P (a + j * o)) = repF P o n a
  | 0, a => rfl
  | n + 1, a => by
    rw [List.range_succ, List.flatMap_append, repF_flat P o n a, repF_add P o n 1 a]
    simp [repF]

theorem play_cons (t l : Int) (evs : List Ev) (k r : For) (a : Int) : playF (.cons t l evs k r) a = secF t l evs k a ++ playF r (a + t * (l + dur k)) := by
  simp only [playF, secF]
  rw [← repF_flat]
  rfl

theorem one_within {l : Int} {evs : List Ev} {k : For} (hw : wrong evs = 0) (hl : lateB l evs = false) (l0 : 0 ≤ l) (hk : Fine k) (b : Int) : Within b (b + (l + dur k)) (oneF l evs k b) := by
  have dk := dur_nonneg hk
  have h2 := play_within k (b + l) hk
  rw [Int.add_assoc] at h2
  exact within_append (by omega) (by omega) (shift_within hw hl b) h2

theorem rep_in {P : Int → List Ev} {o : Int} (ho : 0 ≤ o) (hP : ∀ a, Within a (a + o) (P a)) (n : Nat) (a : Int) : Within a (a + n * o) (repF P o n a) := by
  rw [← repF_flat]
  exact rep_within ho hP a n

theorem sec_within {t l : Int} {evs : List Ev} {k : For} (t0 : 0 ≤ t) (hw : wrong evs = 0) (hl : lateB l evs = false) (l0 : 0 ≤ l) (hk : Fine k) (a : Int) : Within a (a + t * (l + dur k)) (secF t l evs k a) := by
  have dk := dur_nonneg hk
  have := rep_in (o := l + dur k) (by omega) (one_within hw hl l0 hk) t.toNat a
  rw [Int.toNat_of_nonneg t0] at this
  exact this

/-- Where it need not be played. -/
theorem sec_skip {t l : Int} {evs : List Ev} {k : For} (t0 : 0 ≤ t) (hw : wrong evs = 0) (hl : lateB l evs = false) (l0 : 0 ≤ l) (hk : Fine k) (a fr till : Int)
    (h : a + t * (l + dur k) ≤ fr ∨ l + dur k ≤ 0 ∨ someS evs k = false) : win fr till (secF t l evs k a) = [] := by
  rcases h with h | h | h
  · exact win_ahead (sec_within t0 hw hl l0 hk a) h
  · have hz : t * (l + dur k) = 0 := by
      have dk := dur_nonneg hk
      rw [show l + dur k = 0 from by omega, Int.mul_zero]
    have hs := sec_within t0 hw hl l0 hk a
    rw [hz] at hs
    unfold win
    rw [List.filter_eq_nil_iff]
    intro e he
    have := hs.2 e he
    omega
  · have : ∀ n b, repF (oneF l evs k) (l + dur k) n b = [] := by
      intro n
      induction n with
      | zero => intro b; rfl
      | succ n ih => intro b; simp only [repF]; rw [ih, List.append_nil]; exact once_none h _ _
    unfold secF
    rw [this]
    rfl

/-- .. and what is left when one is past. -/
theorem rest_behind {f : For} (hf : Fine f) {a fr till : Int} (h : till ≤ a) : win fr till (playF f a) = [] := win_behind (play_within f a hf) h

theorem rep_step {P : Int → List Ev} {o : Int} {n : Nat} (fr till : Int) (X : List Ev) {a : Int} : X ++ win fr till (repF P o (n + 1) a) = (X ++ win fr till (P a)) ++ win fr till (repF P o n (a + o)) := by
  simp only [repF]
  rw [win_append, List.append_assoc]
theorem one_step {l : Int} {evs : List Ev} {k : For} (fr till : Int) (X : List Ev) {b : Int} : X ++ win fr till (oneF l evs k b) = (X ++ win fr till (evs.map (shift b))) ++ win fr till (playF k (b + l)) := by
  unfold oneF
  rw [win_append, List.append_assoc]
theorem cons_step {t l : Int} {evs : List Ev} {k r : For} (fr till : Int) (X : List Ev) {a : Int} : X ++ win fr till (playF (.cons t l evs k r) a) = (X ++ win fr till (secF t l evs k a)) ++ win fr till (playF r (a + t * (l + dur k))) := by
  rw [play_cons, win_append, List.append_assoc]

/-- The first times that are ahead of the window are not played. -/
theorem sec_from {t l : Int} {evs : List Ev} {k : For} (hw : wrong evs = 0) (hl : lateB l evs = false) (l0 : 0 ≤ l) (hk : Fine k) {a fr till : Int} {m : Nat} (hm : (m : Int) ≤ t) (h : m = 0 ∨ a + m * (l + dur k) ≤ fr) :
    win fr till (secF t l evs k a) = win fr till (repF (oneF l evs k) (l + dur k) (t.toNat - m) (a + m * (l + dur k))) := by
  have dk := dur_nonneg hk
  unfold secF
  rw [show t.toNat = m + (t.toNat - m) from by omega, repF_add, win_append, show m + (t.toNat - m) - m = t.toNat - m from by omega]
  have : win fr till (repF (oneF l evs k) (l + dur k) m a) = [] := by
    rcases h with h | h
    · subst h; rfl
    · exact win_ahead (rep_in (by omega) (one_within hw hl l0 hk) m a) h
  rw [this, List.nil_append]

theorem rep_till {l : Int} {evs : List Ev} {k : For} (hw : wrong evs = 0) (hl : lateB l evs = false) (l0 : 0 ≤ l) (hk : Fine k) {a fr till : Int} (n : Nat) (h : till ≤ a) : win fr till (repF (oneF l evs k) (l + dur k) n a) = [] := by
  have dk := dur_nonneg hk
  exact win_behind (rep_in (by omega) (one_within hw hl l0 hk) n a) h

/-- How many times are ahead of the window. -/
theorem first_of {fr a o t : Int} (ho : 0 < o) (h : fr < a + t * o) (t0 : 0 ≤ t) : ∃ m : Nat, Int.tdiv (max 0 (fr - a)) o = (m : Int) ∧ (m : Int) ≤ t ∧ (m = 0 ∨ a + m * o ≤ fr) ∧ 0 ≤ (m : Int) * o ∧ (m : Int) * o ≤ t * o := by
  obtain ⟨d, hd⟩ : ∃ d : Int, max 0 (fr - a) = d := ⟨_, rfl⟩
  have hd0 : 0 ≤ d := by omega
  have hq0 : 0 ≤ d / o := Int.ediv_nonneg hd0 (by omega)
  have hqm : d / o * o ≤ d := Int.ediv_mul_le d (by omega)
  rw [hd, Int.tdiv_eq_ediv_of_nonneg hd0]
  refine ⟨(d / o).toNat, (Int.toNat_of_nonneg hq0).symm, ?_, ?_, ?_, ?_⟩
  · rw [Int.toNat_of_nonneg hq0]
    by_cases hz : fr - a ≤ 0
    · have : d = 0 := by omega
      rw [this, Int.zero_ediv]; exact t0
    · have : d < t * o := by omega
      have := Int.ediv_lt_of_lt_mul ho this
      omega
  · rw [Int.toNat_of_nonneg hq0]
    by_cases hz : fr - a ≤ 0
    · left
      have : d = 0 := by omega
      rw [this, Int.zero_ediv]; rfl
    · right; omega
  · rw [Int.toNat_of_nonneg hq0]; exact Int.mul_nonneg hq0 (by omega)
  · rw [Int.toNat_of_nonneg hq0]
    have : d / o ≤ t := by
      by_cases hz : fr - a ≤ 0
      · have : d = 0 := by omega
        rw [this, Int.zero_ediv]; exact t0
      · have : d < t * o := by omega
        have := Int.ediv_lt_of_lt_mul ho this
        omega
    exact Int.mul_le_mul_of_nonneg_right this (by omega)

end Go.Proofs.Ythmcicmebaibgaa.TPl
