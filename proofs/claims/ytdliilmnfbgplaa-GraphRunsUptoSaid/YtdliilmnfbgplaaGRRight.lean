/- Whether a piece is right: the law's word. -/
import Derived.Test.YtdliilmnfbgplaaGM8
import Derived.Test.YtdliilmnfbgplaaGM9
namespace Go.Proofs.Ytdliilmnfbgplaa.GRRight
open Go Go.RowKit Go.Proofs.Ytdliilmnfbgplaa.Fl Go.Proofs.Ytdliilmnfbgplaa.Fw Go.Proofs.Ytdliilmnfbgplaa.GRd Go.Proofs.Ytdliilmnfbgplaa.GCells Go.Proofs.Ytdliilmnfbgplaa.GStep Go.Proofs.Ytdliilmnfbgplaa.GMod Go.Proofs.Ytdliilmnfbgplaa.GMem Go.Proofs.Ytdliilmnfbgplaa.GNode Go.Proofs.Ytdliilmnfbgplaa.GPMem Go.Proofs.Ytdliilmnfbgplaa.GPState Go.Proofs.Ytdliilmnfbgplaa.GSub Go.Proofs.Ytdliilmnfbgplaa.GRun Go.Proofs.Ytdliilmnfbgplaa.GMade Go.Proofs.Ytdliilmnfbgplaa.GSoundS Go.Proofs.Ytdliilmnfbgplaa.Hp Go.Proofs.Ytdliilmnfbgplaa.Rd Go.Proofs.Ytdliilmnfbgplaa.Opn Go.Proofs.Ytdliilmnfbgplaa
set_option linter.unusedVariables false
set_option linter.unusedSimpArgs false

set_option maxHeartbeats 4000000 in
set_option maxRecDepth 100000 in
theorem right_calls (A : Nat → Prop) (g : Gd) (na oa : Option Addr) (N nc M oc : Nat) (ia : Option Addr) (ic : Nat) (ls : List (List Nat)) (n : Int) (rest : Bool) (w : World) (hin : InsR w A (.slice ia ls.length ic) ls) (hil : ls.length ≤ 1099511627776) :
    Calls Try.prog 9 #[gdV g.ins (.slice na N nc) (.slice oa M oc), .agg #[.slice ia ls.length ic, .int .i64 n, .bool rest]] w fun e w' => e = .returned (.int .i64 (rightE g ls n)) ∧ Hid (w.grownBy w' none) := by
  obtain ⟨K, hK⟩ : ∃ K, ls.length = K := ⟨_, rfl⟩
  obtain ⟨ins, hins⟩ : ∃ ins, g.ins = ins := ⟨_, rfl⟩
  unfold gdV
  rw [hK] at hin hil ⊢
  rw [hins]
  have HK := Lib.hid hK
  have HI := Lib.hid hins
  obtain ⟨w1, hw1⟩ : ∃ w1, (w.alloc (.cells #[.int .i64 ins, .slice na N nc, .slice oa M oc] 25)).alloc (.cells #[.slice ia K ic, .int .i64 n, .bool rest] 34) = w1 := ⟨_, rfl⟩
  have HG1 : Hid (w.grownBy w1 none) := by unfold Hid; rw [← hw1]; exact grown_alloc (grown_alloc (grown_refl _ _) _) _
  have HIN := Lib.hid (InsR.grown hin HG1.out)
  have HE0 : Hid (rightE g ls n = if n < 0 ∨ 65536 < n then 3 else if (K : Int) ≠ ins then 8 else if ls.any (fun l => decide ((l.length : Int) ≠ n)) = true then 8 else 0) := by
    unfold Hid rightE
    rw [hK, hins]
  have HXB : Hid (w1.heap[w.heap.size + 1]? = some (.cells #[.slice ia K ic, .int .i64 n, .bool rest] 34 (0, 0))) := by unfold Hid; rw [← hw1]; exact alloc2_new _ _ _
  have HW1 := Lib.hid hw1
  clear hin hK hins hw1
  go_enter Try.func9, Try.ntmps9
  by_cases h1 : n < 0
  · have HE := Lib.hid (HE0.out.trans (if_pos (.inl h1)))
    rw [HE.out]
    go_wp2_with fail
    go_ret
    exact ⟨rfl, grown_alloc (grown_alloc (grown_refl _ _) _) _⟩
  by_cases h2 : 65536 < n
  · have HE := Lib.hid (HE0.out.trans (if_pos (.inr h2)))
    rw [HE.out]
    go_wp2_with fail
    go_ret
    exact ⟨rfl, grown_alloc (grown_alloc (grown_refl _ _) _) _⟩
  have HE1 := Lib.hid (HE0.out.trans (if_neg (by omega)))
  by_cases h3 : (K : Int) = ins
  case neg =>
    have HE := Lib.hid (HE1.out.trans (if_pos h3))
    have hb : ((K : Int) == ins) = false := by simpa using h3
    rw [HE.out]
    go_wp2_with fail
    go_ret
    exact ⟨rfl, grown_alloc (grown_alloc (grown_refl _ _) _) _⟩
  have HE2 := Lib.hid (HE1.out.trans (if_neg (fun e => e h3)))
  subst h3
  clear HE0 HE1
  go_upto_region 5 with fail
  have hw1 := HW1.out
  unfold Hid at hw1
  simp only [hw1]
  have x0 := cell_of HXB.out 0
  have x1 := cell_of HXB.out 1
  clear hw1
  go_wp2_with fail
  go_loopw [6, 24] (fun v6 v24 wr => ∃ k : Nat, k ≤ K ∧ v24 = .int .i64 (k : Int) ∧ w1 = wr ∧ Hid (ls.any (fun l => decide ((l.length : Int) ≠ n)) = (ls.drop k).any (fun l => decide ((l.length : Int) ≠ n)))) (fun _ v24 _ => K - (intOf v24).toNat)
  case atStart => exact ⟨0, Nat.zero_le _, rfl, rfl, rfl⟩
  case round =>
    obtain ⟨k, hk, rfl, hwr, HAN⟩ := hrel
    subst hwr
    by_cases hkK : k = K
    · subst hkK
      have HE := Lib.hid (HE2.out.trans (if_neg (by rw [HAN.out, List.drop_of_length_le (Nat.le_of_eq HK.out)]; exact Bool.false_ne_true)))
      go_wp2_with fail
      go_ret
      exact ⟨by rw [HE.out]; rfl, HG1.out⟩
    have hkl : (k : Int) < (K : Int) := by omega
    have hkl2 : k < K := by omega
    have hwk : IntKind.i64.wrap ((k : Int) + 1) = (k : Int) + 1 := IntWalk.i64_in _ (by omega)
    obtain ⟨l, hl⟩ : ∃ l, ls[k]? = some l := ⟨ls[k]'(by rw [HK.out]; exact hkl2), List.getElem?_eq_getElem _⟩
    obtain ⟨b6, o6, ro, rc, rfl, _, hcell, _, _⟩ := ins_at HIN.out hl
    have HL := Lib.hid hl
    obtain ⟨LL, hLL⟩ : ∃ LL, l.length = LL := ⟨_, rfl⟩
    rw [hLL] at hcell
    have HLL := Lib.hid hLL
    clear hl hLL
    by_cases he : (LL : Int) = n
    · have HNX : Hid (ls.any (fun l => decide ((l.length : Int) ≠ n)) = (ls.drop (k + 1)).any (fun l => decide ((l.length : Int) ≠ n))) := by
        unfold Hid
        rw [HAN.out]
        obtain ⟨hh, h5⟩ := List.getElem?_eq_some_iff.1 HL.out
        rw [List.drop_eq_getElem_cons hh, h5, List.any_cons, HLL.out, he]
        simp
      have hb : ((LL : Int) == n) = true := by simpa using he
      go_wp2_with fail
      refine ⟨?_, by simp [intOf]; omega⟩
      first
        | exact ⟨k + 1, by omega, rfl, trivial, HNX.out⟩
        | (repeat apply Exists.intro
           refine ⟨?_, rfl⟩
           exact ⟨k + 1, by omega, rfl, trivial, HNX.out⟩)
    · have HE := Lib.hid (HE2.out.trans (if_pos (List.any_eq_true.2 ⟨l, List.mem_of_getElem? HL.out, decide_eq_true (by rw [HLL.out]; exact he)⟩)))
      have hb : ((LL : Int) == n) = false := by simpa using he
      go_wp2_with fail
      go_ret
      exact ⟨by rw [HE.out]; rfl, HG1.out⟩
end Go.Proofs.Ytdliilmnfbgplaa.GRRight
