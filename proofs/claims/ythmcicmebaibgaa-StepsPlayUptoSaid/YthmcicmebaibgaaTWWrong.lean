/- Wrong, the program's. -/
import Derived.Test.YthmcicmebaibgaaWMod
import Derived.Test.YthmcicmebaibgaaOpn
import Derived.Test.YthmcicmebaibgaaMixed
import Derived.Test.YthmcicmebaibgaaProg
import Derived.WalkKit
import Derived.WalkLawsBesides
import Derived.BigQuiet
import Derived.Deep.MidRow
import Derived.Outline
import Derived.Deep.Cut
import Derived.Deep.CutRange
import Derived.Lib.Hide
namespace Go.Proofs.Ythmcicmebaibgaa.TWWrong
open Go Go.RowKit Go.Proofs.Ythmcicmebaibgaa.WMod Go.Proofs.Ythmcicmebaibgaa.Opn Go.Proofs.Ythmcicmebaibgaa.Hp Go.Proofs.Ythmcicmebaibgaa.Rd
set_option linter.unusedVariables false

/-- An event that lies so in memory. -/
def EvR : World → List Value → Ev → Prop := fun _ cs e => cs = e.cells ∧ e.at_ ≤ 9223372036854775807
def Evs : World → Value → List Ev → Prop := Slc 5 EvR

set_option maxHeartbeats 400000 in
theorem data_calls (k : Int) (w : World) : Calls Try.prog 24 #[.int .i64 k] w fun e w' => e = .returned (.int .i64 (dataN k)) ∧ w = w' := by
  unfold dataN
  by_cases h1 : k = 8
  · subst h1; go_enter Try.func24, Try.ntmps24; go_wp2_with fail; go_ret; exact ⟨rfl, rfl⟩
  by_cases h2 : k = 9
  · subst h2; go_enter Try.func24, Try.ntmps24; go_wp2_with fail; go_ret; exact ⟨rfl, rfl⟩
  by_cases h3 : k = 11
  · subst h3; go_enter Try.func24, Try.ntmps24; go_wp2_with fail; go_ret; exact ⟨rfl, rfl⟩
  by_cases h4 : k = 14
  · subst h4; go_enter Try.func24, Try.ntmps24; go_wp2_with fail; go_ret; exact ⟨rfl, rfl⟩
  by_cases h5 : k = 12
  · subst h5; go_enter Try.func24, Try.ntmps24; go_wp2_with fail; go_ret; exact ⟨rfl, rfl⟩
  simp only [h1, h2, h3, h4, h5, or_false, if_false]
  go_enter Try.func24, Try.ntmps24; go_wp2_with fail; go_ret; exact ⟨rfl, rfl⟩

set_option maxHeartbeats 400000 in
theorem seven_calls (n : Int) (w : World) : Calls Try.prog 25 #[.int .i64 n] w fun e w' => e = .returned (.bool (sevenB n)) ∧ w = w' := by
  unfold sevenB
  by_cases h1 : 0 ≤ n <;> by_cases h2 : n < 128 <;> simp only [h1, h2, decide_true, decide_false, Bool.and_true, Bool.and_false]
  all_goals go_enter Try.func25, Try.ntmps25; go_wp2_with fail; go_ret; exact ⟨rfl, rfl⟩

set_option maxHeartbeats 2000000 in
set_option maxRecDepth 100000 in
theorem wrong_calls (ao : Option Addr) (cap : Nat) (es : List Ev) (w : World) (hv : Evs w (.slice ao es.length cap) es) :
    Calls Try.prog 20 #[.slice ao es.length cap] w fun e w' => e = .returned (.int .i64 (wrong es)) ∧ Hid (w.grownBy w' none) := by
  obtain ⟨n, hn⟩ : ∃ n, es.length = n := ⟨_, rfl⟩
  have HN := Lib.hid hn
  rw [hn] at hv ⊢
  by_cases hbig : 4096 < n
  · have hw : wrong es = 5 := by unfold wrong; rw [if_pos (by omega)]
    rw [hw]
    have hb2 : (4096 : Int) < n := by omega
    clear hn hw
    go_enter Try.func20, Try.ntmps20
    go_wp2_with fail
    go_ret
    exact ⟨rfl, grown_refl _ _⟩
  have hb2 : ¬ (4096 : Int) < n := by omega
  have hw : wrong es = wrongL 0 es := by unfold wrong; rw [if_neg (by omega)]
  obtain ⟨r, hr⟩ : ∃ r, wrong es = r := ⟨_, rfl⟩
  have HW : Hid (r = wrongL 0 es) := by unfold Hid; rw [← hr]; exact hw
  rw [hr]
  have HV := Lib.hid hv
  clear hn hw hr hv
  go_enter Try.func20, Try.ntmps20
  go_wp2_with fail
  go_loopw [3, 12] (fun l i wr => ∃ (k : Nat) (last : Int), k ≤ n ∧ i = .int .i64 k ∧ l = .int .i64 last ∧ 0 ≤ last ∧ Hid (r = wrongL last (es.drop k)) ∧ Hid (w.grownBy wr none)) (fun _ i _ => n - (intOf i).toNat)
  case atStart => exact ⟨0, 0, Nat.zero_le _, rfl, rfl, by omega, by simpa using HW, grown_refl _ _⟩
  case round =>
    clear HW
    obtain ⟨k, last, hk, rfl, rfl, hl0, HR, HG⟩ := hrel
    by_cases hlt : k < n
    · obtain ⟨e, hek⟩ : ∃ e, es[k]? = some e := ⟨es[k]'(by rw [HN.out]; exact hlt), List.getElem?_eq_getElem _⟩
      obtain ⟨hA, hB⟩ := wrongL_step hek HR.out
      have HA := Lib.hid hA
      have HB := Lib.hid hB
      obtain ⟨b, off, rfl, hmax, hc⟩ : ∃ b off, ao = some ⟨b, off, none⟩ ∧ e.at_ ≤ 9223372036854775807 ∧ wr.rangeAt b (off + k * 5) e.cells := by
        rcases HV.out with ⟨b, off, cap', hh, hel⟩ | ⟨_, _, _, hnil⟩
        · simp only [Value.slice.injEq] at hh
          obtain ⟨cs, _, h2, rfl, h4⟩ := hel k e hek
          exact ⟨b, off, hh.1, h4, fun j v hj => HG.out.cell (by rw [Nat.add_assoc]; exact h2 j v hj) (by simp)⟩
        · subst hnil; simp at hek
      have c0 : wr.cell? ⟨b, off + k * 5, none⟩ = some (.int .i64 e.at_) := hc 0 _ rfl
      have c1 : wr.cell? ⟨b, off + k * 5 + 1, none⟩ = some (.int .i64 e.kind) := hc 1 _ rfl
      have c2 : wr.cell? ⟨b, off + k * 5 + 2, none⟩ = some (.int .i64 e.ch) := hc 2 _ rfl
      have c3 : wr.cell? ⟨b, off + k * 5 + 3, none⟩ = some (.int .i64 e.a) := hc 3 _ rfl
      have c4 : wr.cell? ⟨b, off + k * 5 + 4, none⟩ = some (.int .i64 e.b) := hc 4 _ rfl
      clear hA hB hc hek
      have HGA : Hid (w.grownBy (wr.alloc (.cells #[.int .i64 e.at_, .int .i64 e.kind, .int .i64 e.ch, .int .i64 e.a, .int .i64 e.b] 60)) none) := grown_alloc HG.out _
      obtain ⟨at_, kind, ch, a, b'⟩ := e
      simp only at hmax c0 c1 c2 c3 c4 HA HB HGA
      obtain ⟨dn, hdn⟩ : ∃ dn, dataN kind = dn := ⟨_, rfl⟩
      have hd := data_calls kind
      rw [hdn] at hd
      have HD := Lib.hid hd
      have hwe : wrongE last ⟨at_, kind, ch, a, b'⟩ = if dn = 0 then 1 else if (ch < 0 ∨ 15 < ch ∨ sevenB a = false ∨ sevenB b' = false ∨ (dn = 1 ∧ b' ≠ 0)) then 3 else if at_ < last then 8 else if 268435456 ≤ at_ - last then 4 else 0 := by
        unfold wrongE badE
        simp only [hdn]
      clear hd hdn
      by_cases q0 : dn = 0
      · subst q0
        rw [if_pos rfl] at hwe
        have HX : Hid (r = 1) := by unfold Hid; rw [HB.out (by rw [hwe]; decide), hwe]
        clear hwe HA HB
        go_wp2_with (go_at_call 24; refine (HD.out _).mono ?_; rintro e1 w1 ⟨rfl, rfl⟩)
        go_ret
        exact ⟨by rw [HX.out]; rfl, HGA⟩
      rw [if_neg q0] at hwe
      have q0' : (dn == 0) = false := by simpa using q0
      have HWE := Lib.hid hwe
      clear hwe
      go_upto_region 10 with (go_at_call 24; refine (HD.out _).mono ?_; rintro e1 w1 ⟨rfl, rfl⟩)
      clear c0 c1 c2 c3 c4
      obtain ⟨g, hg⟩ : ∃ g, wr.heap.size = g := ⟨_, rfl⟩
      obtain ⟨wn, hwn⟩ : ∃ wn, wr.alloc (.cells #[.int .i64 at_, .int .i64 kind, .int .i64 ch, .int .i64 a, .int .i64 b'] 60) = wn := ⟨_, rfl⟩
      have hrow : wn.heap[g]? = some (.cells #[.int .i64 at_, .int .i64 kind, .int .i64 ch, .int .i64 a, .int .i64 b'] 60 (0, 0)) := by
        rw [← hwn, ← hg]; exact heap_alloc_new _ _
      have c0 : wn.cell? ⟨g, 0, none⟩ = some (.int .i64 at_) := cell_of hrow 0
      have c1 : wn.cell? ⟨g, 1, none⟩ = some (.int .i64 kind) := cell_of hrow 1
      have c2 : wn.cell? ⟨g, 2, none⟩ = some (.int .i64 ch) := cell_of hrow 2
      have c3 : wn.cell? ⟨g, 3, none⟩ = some (.int .i64 a) := cell_of hrow 3
      have c4 : wn.cell? ⟨g, 4, none⟩ = some (.int .i64 b') := cell_of hrow 4
      rw [hwn] at HGA
      simp only [hg, hwn]
      clear hrow hwn hg
      go_cut [12, 22] from 12 to 65 (fun i c wx => i = .int .i64 k ∧ c = .bool (decide (ch < 0 ∨ 15 < ch ∨ sevenB a = false ∨ sevenB b' = false ∨ (dn = 1 ∧ b' ≠ 0))) ∧ wx = wn)
      case first =>
        clear HA HB HWE HGA HV HN HR HG hmax hl0 hlt hk c0 c1 hb2 hbig q0 HD
        by_cases p1 : ch < 0
        · go_wp2_with (go_at_call 25; refine (seven_calls _ _).mono ?_; rintro e1 w1 ⟨rfl, rfl⟩)
          go_meet
          exact ⟨rfl, congrArg Value.bool (decide_eq_true (.inl p1)).symm, rfl⟩
        by_cases p2 : 15 < ch
        · go_wp2_with (go_at_call 25; refine (seven_calls _ _).mono ?_; rintro e1 w1 ⟨rfl, rfl⟩)
          go_meet
          exact ⟨rfl, congrArg Value.bool (decide_eq_true (.inr (.inl p2))).symm, rfl⟩
        by_cases p3 : sevenB a = false
        · go_wp2_with (go_at_call 25; refine (seven_calls _ _).mono ?_; rintro e1 w1 ⟨rfl, rfl⟩)
          go_meet
          exact ⟨rfl, congrArg Value.bool (decide_eq_true (.inr (.inr (.inl p3)))).symm, rfl⟩
        have p3' : sevenB a = true := by simpa using p3
        clear p3
        by_cases p4 : sevenB b' = false
        · go_wp2_with (go_at_call 25; refine (seven_calls _ _).mono ?_; rintro e1 w1 ⟨rfl, rfl⟩)
          go_meet
          exact ⟨rfl, congrArg Value.bool (decide_eq_true (.inr (.inr (.inr (.inl p4))))).symm, rfl⟩
        have p4' : sevenB b' = true := by simpa using p4
        clear p4
        by_cases p5 : dn = 1
        · subst p5
          by_cases p6 : b' = 0
          · subst p6
            go_wp2_with (go_at_call 25; refine (seven_calls _ _).mono ?_; rintro e1 w1 ⟨rfl, rfl⟩)
            go_meet
            exact ⟨rfl, congrArg Value.bool (decide_eq_false (by simp [p3', p4']; omega)).symm, rfl⟩
          · have p7 : (b' != 0) = true := by simpa using p6
            go_wp2_with (go_at_call 25; refine (seven_calls _ _).mono ?_; rintro e1 w1 ⟨rfl, rfl⟩)
            go_meet
            exact ⟨rfl, congrArg Value.bool (by simp [p6]), rfl⟩
        · have p5' : (dn == 1) = false := by simpa using p5
          go_wp2_with (go_at_call 25; refine (seven_calls _ _).mono ?_; rintro e1 w1 ⟨rfl, rfl⟩)
          go_meet
          exact ⟨rfl, congrArg Value.bool (decide_eq_false (by simp [p3', p4']; omega)).symm, rfl⟩
      case rest =>
        obtain ⟨rfl, rfl, rfl⟩ := hcut
        by_cases hb : ch < 0 ∨ 15 < ch ∨ sevenB a = false ∨ sevenB b' = false ∨ (dn = 1 ∧ b' ≠ 0)
        · simp only [hb, decide_true]
          have HX : Hid (r = 3) := by
            have hwe := HWE.out
            rw [if_pos hb] at hwe
            unfold Hid; rw [HB.out (by rw [hwe]; decide), hwe]
          clear HWE HA HB hb
          go_wp2_with fail
          go_ret
          exact ⟨by rw [HX.out]; rfl, HGA⟩
        have HWF : Hid (wrongE last ⟨at_, kind, ch, a, b'⟩ = if at_ < last then 8 else if 268435456 ≤ at_ - last then 4 else 0) := by
          unfold Hid; rw [HWE.out, if_neg hb]
        simp only [hb, decide_false]
        clear HWE hb
        by_cases q1 : at_ < last
        · have HX : Hid (r = 8) := by
            have hwe := HWF.out
            rw [if_pos q1] at hwe
            unfold Hid; rw [HB.out (by rw [hwe]; decide), hwe]
          clear HWF HA HB
          go_wp2_with fail
          go_ret
          exact ⟨by rw [HX.out]; rfl, HGA⟩
        by_cases q2 : 268435456 ≤ at_ - last
        · have HX : Hid (r = 4) := by
            have hwe := HWF.out
            rw [if_neg q1, if_pos q2] at hwe
            unfold Hid; rw [HB.out (by rw [hwe]; decide), hwe]
          clear HWF HA HB
          go_wp2_with fail
          go_ret
          exact ⟨by rw [HX.out]; rfl, HGA⟩
        have HX : Hid (r = wrongL at_ (es.drop (k + 1))) := by
          have hwe := HWF.out
          rw [if_neg q1, if_neg q2] at hwe
          unfold Hid; exact HA.out hwe
        clear HWF HA HB
        go_wp2_with fail
        go_roundw
        case rel => exact ⟨k + 1, at_, by omega, by go_num, rfl, by omega, HX, HGA⟩
        case measure => simp [intOf]; omega
    · obtain rfl : k = n := by omega
      have HX : Hid (r = 0) := by
        have := HR.out
        rw [List.drop_eq_nil_of_le (by rw [HN.out]; exact Nat.le_refl _)] at this
        exact this
      go_wp2_with fail
      go_ret
      exact ⟨by rw [HX.out]; rfl, HG⟩

end Go.Proofs.Ythmcicmebaibgaa.TWWrong
