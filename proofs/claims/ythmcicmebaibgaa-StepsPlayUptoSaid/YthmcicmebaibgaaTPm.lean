/- Turns, and what is played in them: plain, and as it lies in memory. -/
import Derived.Test.YthmcicmebaibgaaTNext
namespace Go.Proofs.Ythmcicmebaibgaa.TPm
open Go Go.RowKit Go.Proofs.Ythmcicmebaibgaa.WMod Go.Proofs.Ythmcicmebaibgaa.TMod Go.Proofs.Ythmcicmebaibgaa.TRead Go.Proofs.Ythmcicmebaibgaa.TSz Go.Proofs.Ythmcicmebaibgaa.TEv Go.Proofs.Ythmcicmebaibgaa.TWin Go.Proofs.Ythmcicmebaibgaa.TNext Go.Proofs.Ythmcicmebaibgaa.Opn Go.Proofs.Ythmcicmebaibgaa.Hp Go.Proofs.Ythmcicmebaibgaa.Rd Go.Proofs.Ythmcicmebaibgaa.TWWrong
set_option linter.unusedVariables false

structure Tn where
  seek : Int
  ticks : Int
structure Pl where
  se : Int
  er : Int
  evs : List Ev
  at_ : Int

/-- Where a turn begins. -/
def seekA (at_ : Int) (t : Tn) : Int := if t.seek < 0 then at_ else if 1125899906842624 < t.seek then at_ else t.seek
def seekE (t : Tn) : Int := if t.seek < 0 then 0 else if 1125899906842624 < t.seek then 3 else 0
def turnR (f : For) (at_ : Int) (t : Tn) : Pl := ⟨seekE t, (nextR f (seekA at_ t) t.ticks).2.2, (nextR f (seekA at_ t) t.ticks).1, (nextR f (seekA at_ t) t.ticks).2.1⟩
def playR (f : For) : Int → List Tn → List Pl
  | _, [] => []
  | a, t :: ts => turnR f a t :: playR f (turnR f a t).at_ ts
def atR (f : For) : Int → List Tn → Int
  | a, [] => a
  | a, t :: ts => atR f (turnR f a t).at_ ts

theorem playR_len (f : For) : ∀ (ts : List Tn) (a : Int), (playR f a ts).length = ts.length
  | [], _ => rfl
  | t :: ts, a => by simp only [playR, List.length_cons]; rw [playR_len f ts]
theorem playR_snoc (f : For) : ∀ (ts : List Tn) (a : Int) (t : Tn), playR f a (ts ++ [t]) = playR f a ts ++ [turnR f (atR f a ts) t]
  | [], _, _ => rfl
  | x :: ts, a, t => by simp only [List.cons_append, playR, atR]; rw [playR_snoc f ts]
theorem atR_snoc (f : For) : ∀ (ts : List Tn) (a : Int) (t : Tn), atR f a (ts ++ [t]) = (turnR f (atR f a ts) t).at_
  | [], _, _ => rfl
  | x :: ts, a, t => by simp only [List.cons_append, atR]; rw [atR_snoc f ts]
theorem nextR_at {f : For} {a t : Int} (h0 : 0 ≤ a) (h1 : a ≤ 1125899906842624) : 0 ≤ (nextR f a t).2.1 ∧ (nextR f a t).2.1 ≤ 1125899906842624 := by
  unfold nextR
  split
  · exact ⟨h0, h1⟩
  · split
    · exact ⟨h0, h1⟩
    · simp only; omega
theorem seekA_at {a : Int} {t : Tn} (h0 : 0 ≤ a) (h1 : a ≤ 1125899906842624) : 0 ≤ seekA a t ∧ seekA a t ≤ 1125899906842624 := by
  unfold seekA
  split
  · exact ⟨h0, h1⟩
  · split
    · exact ⟨h0, h1⟩
    · omega
theorem turnR_at {f : For} {a : Int} {t : Tn} (h0 : 0 ≤ a) (h1 : a ≤ 1125899906842624) : 0 ≤ (turnR f a t).at_ ∧ (turnR f a t).at_ ≤ 1125899906842624 := by
  have := seekA_at (t := t) h0 h1
  exact nextR_at this.1 this.2
theorem atR_at {f : For} : ∀ (ts : List Tn) {a : Int}, 0 ≤ a → a ≤ 1125899906842624 → 0 ≤ atR f a ts ∧ atR f a ts ≤ 1125899906842624
  | [], a, h0, h1 => ⟨h0, h1⟩
  | t :: ts, a, h0, h1 => by
    have := turnR_at (f := f) (t := t) h0 h1
    exact atR_at ts this.1 this.2

/-! ### in memory -/

def TnR : World → List Value → Tn → Prop := fun _ cs t => cs = [.int .i64 t.seek, .int .i64 t.ticks]
def Tns : World → Value → List Tn → Prop := Slc 2 TnR
def PlV : World → List Value → Pl → Prop := fun w cs p => ∃ ve, cs = [.int .i64 p.se, .int .i64 p.er, ve, .int .i64 p.at_] ∧ Evs w ve p.evs
def Pls : World → Value → List Pl → Prop := Slc 4 PlV

theorem tns_grown {w w' : World} {v : Value} {ts : List Tn} (h : Tns w v ts) (hg : w.grownBy w' none) : Tns w' v ts := Slc.grown h hg fun _ _ h => h
theorem pls_grown {w w' : World} {v : Value} {ps : List Pl} (h : Pls w v ps) (hg : w.grownBy w' none) : Pls w' v ps := Slc.grown h hg fun _ _ ⟨ve, h1, h2⟩ => ⟨ve, h1, evs_grown h2 hg⟩

theorem tns_at {w : World} {ao : Option Addr} {n cap : Nat} {ts : List Tn} (h : Tns w (.slice ao n cap) ts) {k : Nat} {t : Tn} (hk : ts[k]? = some t) :
    ∃ b off, ao = some ⟨b, off, none⟩ ∧ w.cell? ⟨b, off + k * 2, none⟩ = some (.int .i64 t.seek) ∧ w.cell? ⟨b, off + k * 2 + 1, none⟩ = some (.int .i64 t.ticks) := by
  rcases h with ⟨b, off, cap', hh, hel⟩ | ⟨_, _, _, hnil⟩
  · simp only [Value.slice.injEq] at hh
    obtain ⟨cs, _, h2, rfl, _⟩ := hel k t hk
    exact ⟨b, off, hh.1, by have := h2 0 _ rfl; simpa using this, by have := h2 1 _ rfl; rw [Nat.add_assoc]; exact this⟩
  · subst hnil; simp at hk

theorem slc_open {α : Type} {s : Nat} {R : World → List Value → α → Prop} {w : World} {v : Value} {xs : List α} (h : Slc s R w v xs) : ∃ ao c, v = .slice ao xs.length c := by
  rcases h with ⟨b, off, cap, rfl, _⟩ | ⟨ao, cap, rfl, rfl⟩
  · exact ⟨_, _, rfl⟩
  · exact ⟨_, _, rfl⟩

/-- What has been played so far, as cells. -/
def PlE (w : World) (A : Nat → Prop) (ps : List Pl) (cs : List Value) : Prop :=
  cs.length = ps.length * 4 ∧ ∀ i p, ps[i]? = some p → ∃ ve, cs[i * 4]? = some (.int .i64 p.se) ∧ cs[i * 4 + 1]? = some (.int .i64 p.er) ∧ cs[i * 4 + 2]? = some ve ∧ cs[i * 4 + 3]? = some (.int .i64 p.at_) ∧ EvsA w A ve p.evs

theorem PlE.zero (w : World) (A : Nat → Prop) : PlE w A [] [] := ⟨rfl, fun i p h => by simp at h⟩
theorem PlE.kept {w w' : World} {A : Nat → Prop} {ps : List Pl} {cs : List Value} {row : Option Nat} (h : PlE w A ps cs) (hg : w.grownBy w' row) (hr : ∀ b, row = some b → ¬ A b) : PlE w' A ps cs :=
  ⟨h.1, fun i p hp => let ⟨ve, h1, h2, h3, h4, h5⟩ := h.2 i p hp; ⟨ve, h1, h2, h3, h4, h5.kept hg hr⟩⟩
theorem PlE.mono {w : World} {A A' : Nat → Prop} {ps : List Pl} {cs : List Value} (h : PlE w A ps cs) (hA : ∀ b, A b → A' b) : PlE w A' ps cs :=
  ⟨h.1, fun i p hp => let ⟨ve, h1, h2, h3, h4, h5⟩ := h.2 i p hp; ⟨ve, h1, h2, h3, h4, h5.mono hA⟩⟩
theorem PlE.snoc {w : World} {A : Nat → Prop} {ps : List Pl} {cs : List Value} (h : PlE w A ps cs) {p : Pl} {ve : Value} (he : EvsA w A ve p.evs) : PlE w A (ps ++ [p]) (cs ++ [.int .i64 p.se, .int .i64 p.er, ve, .int .i64 p.at_]) := by
  refine ⟨by rw [List.length_append, List.length_append, h.1]; simp; omega, fun i q hq => ?_⟩
  by_cases hi : i < ps.length
  · rw [List.getElem?_append_left hi] at hq
    obtain ⟨ve', h1, h2, h3, h4, h5⟩ := h.2 i q hq
    have hl := h.1
    refine ⟨ve', ?_, ?_, ?_, ?_, h5⟩
    · rw [List.getElem?_append_left (by omega)]; exact h1
    · rw [List.getElem?_append_left (by omega)]; exact h2
    · rw [List.getElem?_append_left (by omega)]; exact h3
    · rw [List.getElem?_append_left (by omega)]; exact h4
  · rw [List.getElem?_append_right (by omega)] at hq
    have hi0 : i = ps.length := by
      have := (List.getElem?_eq_some_iff.1 hq).1
      simp at this
      omega
    subst hi0
    simp at hq
    subst hq
    have hl := h.1
    refine ⟨ve, ?_, ?_, ?_, ?_, he⟩
    · rw [List.getElem?_append_right (by omega), show ps.length * 4 - cs.length = 0 from by omega]; rfl
    · rw [List.getElem?_append_right (by omega), show ps.length * 4 + 1 - cs.length = 1 from by omega]; rfl
    · rw [List.getElem?_append_right (by omega), show ps.length * 4 + 2 - cs.length = 2 from by omega]; rfl
    · rw [List.getElem?_append_right (by omega), show ps.length * 4 + 3 - cs.length = 3 from by omega]; rfl

/-- All of it, in a row of its own. -/
theorem PlE.pls {w : World} {A : Nat → Prop} {ps : List Pl} {cs : List Value} (h : PlE w A ps cs) {B : Nat} {v : Value} (ho : w.ownsRow B 36 4 v ps.length cs) : Pls w v ps := by
  rcases ho.2 with ⟨rfl, hn⟩ | ⟨g, cap, cur, rfl, _, hgg, hc, hm1, hsz, ht⟩
  · exact .inr ⟨none, 0, rfl, List.eq_nil_of_length_eq_zero hn⟩
  · refine .inl ⟨g, 0, cap, rfl, fun i p hp => ?_⟩
    obtain ⟨ve, h1, h2, h3, h4, h5⟩ := h.2 i p hp
    have hi : i < ps.length := (List.getElem?_eq_some_iff.1 hp).1
    have key : ∀ j u, cs[i * 4 + j]? = some u → j < 4 → w.cell? ⟨g, 0 + (i * 4 + j), none⟩ = some u := by
      intro j u hu hj
      rw [Nat.zero_add, cell_of hgg]
      rw [← ht, List.getElem?_take, if_pos (by omega), Array.getElem?_toList] at hu
      exact hu
    refine ⟨[.int .i64 p.se, .int .i64 p.er, ve, .int .i64 p.at_], rfl, fun j u hj => ?_, ve, rfl, h5.evs⟩
    match j, hj with
    | 0, hj => exact key 0 u (by simpa using h1.trans hj) (by decide)
    | 1, hj => exact key 1 u (by simpa using h2.trans hj) (by decide)
    | 2, hj => exact key 2 u (by simpa using h3.trans hj) (by decide)
    | 3, hj => exact key 3 u (by simpa using h4.trans hj) (by decide)
    | j + 4, hj => simp at hj

end Go.Proofs.Ythmcicmebaibgaa.TPm
