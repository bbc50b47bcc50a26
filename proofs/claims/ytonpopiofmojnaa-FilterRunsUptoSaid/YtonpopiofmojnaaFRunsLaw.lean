/- FilterRuns, the plain part: what lies in the two growing lists. -/
import Derived.Test.YtonpopiofmojnaaFLaws
import Derived.Test.YtonpopiofmojnaaFRef
namespace Go.Proofs.Ytonpopiofmojnaa.FRunsLaw
open Go Go.RowKit Go.Proofs.Ytonpopiofmojnaa.Fl Go.Proofs.Ytonpopiofmojnaa.FRun Go.Proofs.Ytonpopiofmojnaa.FNew Go.Proofs.Ytonpopiofmojnaa.FStrain

theorem strains_get (c : Co) (rest : Int) : ∀ (ps : List (List Nat)) (i : Nat) (s : St) (k : Nat) (p : List Nat), ps[k]? = some p →
    (strains c rest i s ps)[k]? = some (outs c (if ((i + k : Nat) : Int) = rest then rest0 else strainsEnd c rest i s (ps.take k)) p)
  | [], _, _, _, _, h => by simp at h
  | x :: l, i, s, 0, p, h => by
    simp at h
    subst h
    simp [strains, strainsEnd]
  | x :: l, i, s, k + 1, p, h => by
    simp only [List.getElem?_cons_succ] at h
    simp only [strains, List.getElem?_cons_succ, List.take_succ_cons, strainsEnd]
    rw [strains_get c rest l (i + 1) _ k p h, show i + 1 + k = i + (k + 1) from by omega]

/-- The sum of lengths. -/
def tot (ps : List (List Nat)) : Nat := (ps.map List.length).sum

theorem tot_take (ps : List (List Nat)) (k : Nat) : tot (ps.take k) ≤ tot ps := by
  have h := congrArg tot (List.take_append_drop k ps)
  unfold tot at *
  rw [List.map_append, List.sum_append] at h
  omega

theorem tot_snoc {ps : List (List Nat)} {k : Nat} {p : List Nat} (h : ps[k]? = some p) : tot (ps.take (k + 1)) = tot (ps.take k) + p.length := by
  unfold tot
  rw [take_snoc h, List.map_append, List.sum_append]
  simp

structure At (c : Co) (rest : Int) (ps yss : List (List Nat)) (k : Nat) (ins als : List Nat) (fr : Nat) : Prop where
  le : fr ≤ als.length
  mem : strainsEnd c rest 0 rest0 (ps.take k) = fin c rest0 ins
  out : (als.drop fr).map cn = outs c rest0 ins
  fewa : als.length ≤ tot (ps.take k)
  fewi : ins.length ≤ tot (ps.take k)

theorem at_start (c : Co) (rest : Int) (ps yss : List (List Nat)) : At c rest ps yss 0 [] [] 0 := ⟨Nat.le_refl _, rfl, rfl, Nat.zero_le _, Nat.zero_le _⟩

theorem ys_of {c : Co} {rest : Int} {ps yss : List (List Nat)} (hy : yss.map (List.map cn) = strains c rest 0 rest0 ps) {k : Nat} {p y : List Nat} (hp : ps[k]? = some p) (h : yss[k]? = some y) :
    y.map cn = outs c (if (k : Int) = rest then rest0 else strainsEnd c rest 0 rest0 (ps.take k)) p := by
  have h1 := strains_get c rest ps 0 rest0 k p hp
  rw [← hy, List.getElem?_map, h] at h1
  rw [Nat.zero_add] at h1
  simpa using h1

theorem ys_len {c : Co} {rest : Int} {ps yss : List (List Nat)} (hy : yss.map (List.map cn) = strains c rest 0 rest0 ps) {k : Nat} {p y : List Nat} (hp : ps[k]? = some p) (h : yss[k]? = some y) : y.length = p.length := by
  have := congrArg List.length (ys_of hy hp h)
  rwa [List.length_map, outs_length] at this

theorem end_snoc {c : Co} {rest : Int} {ps : List (List Nat)} {k : Nat} {p : List Nat} (hp : ps[k]? = some p) :
    strainsEnd c rest 0 rest0 (ps.take (k + 1)) = fin c (if (k : Int) = rest then rest0 else strainsEnd c rest 0 rest0 (ps.take k)) p := by
  have hl : (ps.take k).length = k := by
    have := (List.getElem?_eq_some_iff.1 hp).1
    rw [List.length_take]; omega
  rw [take_snoc hp, strainsEnd_append, hl]
  simp [strainsEnd]

theorem at_rest {c : Co} {rest : Int} {ps yss : List (List Nat)} {k : Nat} {ins als : List Nat} {fr : Nat} (h : At c rest ps yss k ins als fr) (hy : yss.map (List.map cn) = strains c rest 0 rest0 ps) {p y : List Nat} (hp : ps[k]? = some p) (hyk : yss[k]? = some y)
    (hr : (k : Int) = rest) : At c rest ps yss (k + 1) ([] ++ p) (als ++ y) als.length := by
  have hl := ys_len hy hp hyk
  have ho := ys_of hy hp hyk
  rw [if_pos hr] at ho
  refine ⟨by simp, ?_, ?_, ?_, ?_⟩
  · rw [end_snoc hp, if_pos hr, List.nil_append]
  · rw [List.drop_left, ho, List.nil_append]
  · rw [tot_snoc hp, List.length_append, hl]; have := h.fewa; omega
  · rw [tot_snoc hp]; simp

theorem at_on {c : Co} {rest : Int} {ps yss : List (List Nat)} {k : Nat} {ins als : List Nat} {fr : Nat} (h : At c rest ps yss k ins als fr) (hy : yss.map (List.map cn) = strains c rest 0 rest0 ps) {p y : List Nat} (hp : ps[k]? = some p) (hyk : yss[k]? = some y)
    (hr : (k : Int) ≠ rest) : At c rest ps yss (k + 1) (ins ++ p) (als ++ y) fr := by
  have hl := ys_len hy hp hyk
  have ho := ys_of hy hp hyk
  rw [if_neg hr, h.mem] at ho
  refine ⟨by have := h.le; simp; omega, ?_, ?_, ?_, ?_⟩
  · rw [end_snoc hp, if_neg hr, h.mem, fin_append]
  · rw [List.drop_append_of_le_length h.le, List.map_append, h.out, ho, outs_append]
  · rw [tot_snoc hp, List.length_append, hl]; have := h.fewa; omega
  · rw [tot_snoc hp, List.length_append]; have := h.fewi; omega

theorem like_of {c : Co} {ins l zs : List Nat} (h : l.map cn = outs c rest0 ins) (hz : zs.map cn = outs c rest0 ins) : likeAll l zs = true := by
  unfold likeAll
  rw [h, hz]
  simp

end Go.Proofs.Ytonpopiofmojnaa.FRunsLaw
