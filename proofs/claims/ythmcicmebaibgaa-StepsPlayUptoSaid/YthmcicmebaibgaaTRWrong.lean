/- The reference's Data and Wrong. -/
import Derived.Test.YthmcicmebaibgaaTWWrong
namespace Go.Proofs.Ythmcicmebaibgaa.TRWrong
open Go Go.RowKit Go.Proofs.Ythmcicmebaibgaa.WMod Go.Proofs.Ythmcicmebaibgaa.Opn Go.Proofs.Ythmcicmebaibgaa.Hp Go.Proofs.Ythmcicmebaibgaa.Rd Go.Proofs.Ythmcicmebaibgaa.TWWrong
set_option linter.unusedVariables false

set_option maxHeartbeats 400000 in
theorem rdata_calls (k : Int) (w : World) : Calls Try.prog 26 #[.int .i64 k] w fun e w' => e = .returned (.int .i64 (dataN k)) ∧ w = w' := by
  unfold dataN
  by_cases h1 : k = 8
  · subst h1; go_enter Try.func26, Try.ntmps26; go_wp2_with fail; go_ret; exact ⟨rfl, rfl⟩
  by_cases h2 : k = 9
  · subst h2; go_enter Try.func26, Try.ntmps26; go_wp2_with fail; go_ret; exact ⟨rfl, rfl⟩
  by_cases h3 : k = 11
  · subst h3; go_enter Try.func26, Try.ntmps26; go_wp2_with fail; go_ret; exact ⟨rfl, rfl⟩
  by_cases h4 : k = 14
  · subst h4; go_enter Try.func26, Try.ntmps26; go_wp2_with fail; go_ret; exact ⟨rfl, rfl⟩
  by_cases h5 : k = 12
  · subst h5; go_enter Try.func26, Try.ntmps26; go_wp2_with fail; go_ret; exact ⟨rfl, rfl⟩
  simp only [h1, h2, h3, h4, h5, or_false, if_false]
  have g1 : (k == 8) = false := by simpa using h1
  have g2 : (k == 9) = false := by simpa using h2
  have g3 : (k == 11) = false := by simpa using h3
  have g4 : (k == 14) = false := by simpa using h4
  have g5 : (k == 12) = false := by simpa using h5
  clear h1 h2 h3 h4 h5
  go_enter Try.func26, Try.ntmps26; go_wp2_with fail; go_ret; exact ⟨rfl, rfl⟩

/-- What the walk needs to know of the last one. -/
def Last (es : List Ev) (k : Nat) (last : Int) : Prop := (k = 0 → last = 0) ∧ ∀ e, 0 < k → es[k - 1]? = some e → e.at_ = last

theorem last_next {es : List Ev} {k : Nat} {e : Ev} (h : es[k]? = some e) : Last es (k + 1) e.at_ := ⟨fun h => by omega, fun e' _ h' => by rw [Nat.add_sub_cancel, h] at h'; cases h'; rfl⟩

set_option maxHeartbeats 4000000 in
set_option maxRecDepth 100000 in
theorem rwrong_calls (ao : Option Addr) (cap : Nat) (es : List Ev) (w : World) (hv : Evs w (.slice ao es.length cap) es) :
    Calls Try.prog 21 #[.slice ao es.length cap] w fun e w' => e = .returned (.int .i64 (wrong es)) ∧ Hid (w.grownBy w' none) := by
  obtain ⟨n, hn⟩ : ∃ n, es.length = n := ⟨_, rfl⟩
  have HN := Lib.hid hn
  rw [hn] at hv ⊢
  by_cases hbig : 4096 < n
  · have hw : wrong es = 5 := by unfold wrong; rw [if_pos (by omega)]
    rw [hw]
    have hb2 : (4096 : Int) < n := by omega
    clear hn hw
    go_enter Try.func21, Try.ntmps21
    go_wp2_with fail
    go_ret
    exact ⟨rfl, grown_refl _ _⟩
  have hb2 : ¬ (4096 : Int) < n := by omega
  have hw : wrong es = wrongL 0 es := by unfold wrong; rw [if_neg (by omega)]
  obtain ⟨r, hr⟩ : ∃ r, wrong es = r := ⟨_, rfl⟩
  have HW : Hid (r = wrongL 0 es) := by unfold Hid; rw [← hr]; exact hw
  rw [hr]
  have HV := Lib.hid hv
  clear hn hw hr hv
  go_enter Try.func21, Try.ntmps21
  go_wp2_with fail
  go_loopw [11] (fun i wr => ∃ (k : Nat) (last : Int), k ≤ n ∧ i = .int .i64 k ∧ 0 ≤ last ∧ Hid (Last es k last) ∧ Hid (r = wrongL last (es.drop k)) ∧ Hid (w.grownBy wr none)) (fun i _ => n - (intOf i).toNat)
  case atStart => exact ⟨0, 0, Nat.zero_le _, rfl, by omega, ⟨fun _ => rfl, fun e h => by omega⟩, by simpa using HW, grown_refl _ _⟩
  case round =>
    clear HW
    obtain ⟨k, last, hk, rfl, hl0, HL, HR, HG⟩ := hrel
    by_cases hlt : k < n
    · obtain ⟨e, hek⟩ : ∃ e, es[k]? = some e := ⟨es[k]'(by rw [HN.out]; exact hlt), List.getElem?_eq_getElem _⟩
      obtain ⟨hA, hB⟩ := wrongL_step hek HR.out
      have HA := Lib.hid hA
      have HB := Lib.hid hB
      have HLN := Lib.hid (last_next hek)
      obtain ⟨b, off, rfl, hmax, hc⟩ : ∃ b off, ao = some ⟨b, off, none⟩ ∧ e.at_ ≤ 9223372036854775807 ∧ wr.rangeAt b (off + k * 5) e.cells := by
        rcases HV.out with ⟨b, off, cap', hh, hel⟩ | ⟨_, _, _, hnil⟩
        · simp only [Value.slice.injEq] at hh
          obtain ⟨cs, _, h2, rfl, h4⟩ := hel k e hek
          exact ⟨b, off, hh.1, h4, fun j v hj => HG.out.cell (by rw [Nat.add_assoc]; exact h2 j v hj) (by simp)⟩
        · subst hnil; simp at hek
      have c0 : wr.cell? ⟨b, off + k * 5, none⟩ = some (.int .i64 e.at_) := hc 0 _ rfl
      have c1 : wr.cell? ⟨b, off + k * 5 + 1, none⟩ = some (.int .i64 e.kind) := hc 1 _ rfl
      have c2 : wr.cell? ⟨b, off + k * 5 + 2, none⟩ = some (.int .i64 e.ch) := hc 2 _ rfl
      have c3 : wr.cell? ⟨b, off + k * 5 + 3, none⟩ = some (.int .i64 e.a) := hc 3 _ rfl
      have c4 : wr.cell? ⟨b, off + k * 5 + 4, none⟩ = some (.int .i64 e.b) := hc 4 _ rfl
      have HPV : Hid (0 < k → ∃ e', es[k - 1]? = some e' ∧ e'.at_ = last ∧ wr.cell? ⟨b, off + (k - 1) * 5, none⟩ = some (.int .i64 last)) := by
        intro hk0
        obtain ⟨e', he'⟩ : ∃ e', es[k - 1]? = some e' := ⟨es[k - 1]'(by rw [HN.out]; omega), List.getElem?_eq_getElem _⟩
        have h1 := HL.out.2 e' hk0 he'
        refine ⟨e', he', h1, ?_⟩
        rcases HV.out with ⟨b', off', cap', hh, hel⟩ | ⟨_, _, _, hnil⟩
        · simp only [Value.slice.injEq, Option.some.injEq, Addr.mk.injEq, and_true] at hh
          obtain ⟨⟨rfl, rfl⟩, _⟩ := hh
          obtain ⟨cs, _, h2, rfl, h4⟩ := hel (k - 1) e' he'
          have := h2 0 _ rfl
          rw [h1] at this
          exact HG.out.cell this (by simp)
        · subst hnil; simp at hek
      clear hA hB hc hek
      have HGA : Hid (w.grownBy (wr.alloc (.cells #[.int .i64 e.at_, .int .i64 e.kind, .int .i64 e.ch, .int .i64 e.a, .int .i64 e.b] 60)) none) := grown_alloc HG.out _
      obtain ⟨at_, kind, ch, a, b'⟩ := e
      simp only at hmax c0 c1 c2 c3 c4 HA HB HGA HLN
      obtain ⟨dn, hdn⟩ : ∃ dn, dataN kind = dn := ⟨_, rfl⟩
      have hd := rdata_calls kind
      rw [hdn] at hd
      have HD := Lib.hid hd
      have hwe : wrongE last ⟨at_, kind, ch, a, b'⟩ = if dn = 0 then 1 else if (ch < 0 ∨ 15 < ch ∨ sevenB a = false ∨ sevenB b' = false ∨ (dn = 1 ∧ b' ≠ 0)) then 3 else if at_ < last then 8 else if 268435456 ≤ at_ - last then 4 else 0 := by
        unfold wrongE badE
        simp only [hdn]
      clear hd hdn
      by_cases q0 : dn = 0
      · subst q0
        rw [if_pos rfl] at hwe
        have HX : Hid (r = 1) := by unfold Hid; rw [HB.out (by rw [hwe]; decide), hwe]
        clear hwe HA HB
        go_wp2_with (go_at_call 26; refine (HD.out _).mono ?_; rintro e1 w1 ⟨rfl, rfl⟩)
        go_ret
        exact ⟨by rw [HX.out]; rfl, HGA⟩
      rw [if_neg q0] at hwe
      have q0' : (dn == 0) = false := by simpa using q0
      have HWE := Lib.hid hwe
      clear hwe
      go_upto_region 8 with (go_at_call 26; refine (HD.out _).mono ?_; rintro e1 w1 ⟨rfl, rfl⟩)
      obtain ⟨g, hg⟩ : ∃ g, wr.heap.size = g := ⟨_, rfl⟩
      obtain ⟨wn, hwn⟩ : ∃ wn, wr.alloc (.cells #[.int .i64 at_, .int .i64 kind, .int .i64 ch, .int .i64 a, .int .i64 b'] 60) = wn := ⟨_, rfl⟩
      have hrow : wn.heap[g]? = some (.cells #[.int .i64 at_, .int .i64 kind, .int .i64 ch, .int .i64 a, .int .i64 b'] 60 (0, 0)) := by
        rw [← hwn, ← hg]; exact heap_alloc_new _ _
      have HPW : Hid (0 < k → wn.cell? ⟨b, off + (k - 1) * 5, none⟩ = some (.int .i64 last)) := by
        intro hk0
        obtain ⟨_, _, _, h3⟩ := HPV.out hk0
        rw [← hwn]
        exact grown_cell (grown_alloc (grown_refl _ none) _) (p := ⟨b, off + (k - 1) * 5, none⟩) h3 (by simp)
      clear c0 c1 c2 c3 c4 HPV
      have c0 : wn.cell? ⟨g, 0, none⟩ = some (.int .i64 at_) := cell_of hrow 0
      have c1 : wn.cell? ⟨g, 1, none⟩ = some (.int .i64 kind) := cell_of hrow 1
      have c2 : wn.cell? ⟨g, 2, none⟩ = some (.int .i64 ch) := cell_of hrow 2
      have c3 : wn.cell? ⟨g, 3, none⟩ = some (.int .i64 a) := cell_of hrow 3
      have c4 : wn.cell? ⟨g, 4, none⟩ = some (.int .i64 b') := cell_of hrow 4
      rw [hwn] at HGA
      simp only [hg, hwn]
      clear hrow hwn hg
      go_cut [11, 58] from 11 to 76 (fun i c wx => i = .int .i64 k ∧ c = .bool (decide (ch < 0 ∨ 15 < ch ∨ sevenB a = false ∨ sevenB b' = false ∨ (dn = 1 ∧ b' ≠ 0))) ∧ wn = wx)
      case first =>
        clear HA HB HWE HGA HV HN HR HG hmax hl0 hlt hk c0 hb2 hbig q0 HL HLN HPW
        by_cases p0 : ch < 0
        · go_wp2_with (go_at_call 26; refine (HD.out _).mono ?_; rintro e1 w1 ⟨rfl, rfl⟩)
          go_meet
          exact ⟨rfl, congrArg Value.bool ((decide_eq_true (by unfold sevenB; simp; omega)).symm), rfl⟩
        by_cases p1 : 15 < ch
        · go_wp2_with (go_at_call 26; refine (HD.out _).mono ?_; rintro e1 w1 ⟨rfl, rfl⟩)
          go_meet
          exact ⟨rfl, congrArg Value.bool ((decide_eq_true (by unfold sevenB; simp; omega)).symm), rfl⟩
        by_cases p2 : a < 0
        · go_wp2_with (go_at_call 26; refine (HD.out _).mono ?_; rintro e1 w1 ⟨rfl, rfl⟩)
          go_meet
          exact ⟨rfl, congrArg Value.bool ((decide_eq_true (by unfold sevenB; simp; omega)).symm), rfl⟩
        by_cases p3 : 127 < a
        · go_wp2_with (go_at_call 26; refine (HD.out _).mono ?_; rintro e1 w1 ⟨rfl, rfl⟩)
          go_meet
          exact ⟨rfl, congrArg Value.bool ((decide_eq_true (by unfold sevenB; simp; omega)).symm), rfl⟩
        by_cases p4 : b' < 0
        · go_wp2_with (go_at_call 26; refine (HD.out _).mono ?_; rintro e1 w1 ⟨rfl, rfl⟩)
          go_meet
          exact ⟨rfl, congrArg Value.bool ((decide_eq_true (by unfold sevenB; simp; omega)).symm), rfl⟩
        by_cases p5 : 127 < b'
        · go_wp2_with (go_at_call 26; refine (HD.out _).mono ?_; rintro e1 w1 ⟨rfl, rfl⟩)
          go_meet
          exact ⟨rfl, congrArg Value.bool ((decide_eq_true (by unfold sevenB; simp; omega)).symm), rfl⟩
        by_cases p6 : dn = 1
        · subst p6
          by_cases p7 : b' = 0
          · subst p7
            go_wp2_with (go_at_call 26; refine (HD.out _).mono ?_; rintro e1 w1 ⟨rfl, rfl⟩)
            go_meet
            exact ⟨rfl, congrArg Value.bool ((decide_eq_false (by unfold sevenB; simp; omega)).symm), rfl⟩
          · have p8 : 0 < b' := by omega
            go_wp2_with (go_at_call 26; refine (HD.out _).mono ?_; rintro e1 w1 ⟨rfl, rfl⟩)
            go_meet
            exact ⟨rfl, congrArg Value.bool ((decide_eq_true (by unfold sevenB; simp; omega)).symm), rfl⟩
        · have p9 : (dn == 1) = false := by simpa using p6
          go_wp2_with (go_at_call 26; refine (HD.out _).mono ?_; rintro e1 w1 ⟨rfl, rfl⟩)
          go_meet
          exact ⟨rfl, congrArg Value.bool ((decide_eq_false (by unfold sevenB; simp; omega)).symm), rfl⟩
      case rest =>
        obtain ⟨rfl, rfl, rfl⟩ := hcut
        by_cases hb : ch < 0 ∨ 15 < ch ∨ sevenB a = false ∨ sevenB b' = false ∨ (dn = 1 ∧ b' ≠ 0)
        · simp only [hb, decide_true]
          have HX : Hid (r = 3) := by
            have hwe := HWE.out
            rw [if_pos hb] at hwe
            unfold Hid; rw [HB.out (by rw [hwe]; decide), hwe]
          clear HWE HA HB hb
          go_wp2_with fail
          go_ret
          exact ⟨by rw [HX.out]; rfl, HGA⟩
        have HWF : Hid (wrongE last ⟨at_, kind, ch, a, b'⟩ = if at_ < last then 8 else if 268435456 ≤ at_ - last then 4 else 0) := by
          unfold Hid; rw [HWE.out, if_neg hb]
        simp only [hb, decide_false]
        clear HWE hb
        by_cases hk0 : k = 0
        · subst hk0
          obtain rfl : last = 0 := HL.out.1 rfl
          by_cases q1 : at_ < 0
          · have HX : Hid (r = 8) := by
              have hwe := HWF.out
              rw [if_pos q1] at hwe
              unfold Hid; rw [HB.out (by rw [hwe]; decide), hwe]
            clear HWF HA HB
            go_wp2_with fail
            go_ret
            exact ⟨by rw [HX.out]; rfl, HGA⟩
          by_cases q2 : 268435456 ≤ at_ - 0
          · have HX : Hid (r = 4) := by
              have hwe := HWF.out
              rw [if_neg q1, if_pos q2] at hwe
              unfold Hid; rw [HB.out (by rw [hwe]; decide), hwe]
            have q3 : 268435455 < at_ - 0 := by omega
            clear HWF HA HB
            go_wp2_with fail
            go_ret
            exact ⟨by rw [HX.out]; rfl, HGA⟩
          have HX : Hid (r = wrongL at_ (es.drop (0 + 1))) := by
            have hwe := HWF.out
            rw [if_neg q1, if_neg q2] at hwe
            unfold Hid; exact HA.out hwe
          have q3 : ¬ 268435455 < at_ - 0 := by omega
          clear HWF HA HB
          go_wp2_with fail
          go_roundw
          case rel => exact ⟨0 + 1, at_, by omega, by go_num, by omega, HLN, HX, HGA⟩
          case measure => simp [intOf]; omega
        obtain ⟨k1, rfl⟩ : ∃ k1, k = k1 + 1 := ⟨k - 1, by omega⟩
        have cp := HPW.out (by omega)
        rw [Nat.add_sub_cancel] at cp
        by_cases q1 : at_ < last
        · have HX : Hid (r = 8) := by
            have hwe := HWF.out
            rw [if_pos q1] at hwe
            unfold Hid; rw [HB.out (by rw [hwe]; decide), hwe]
          clear HWF HA HB
          go_wp2_with fail
          go_ret
          exact ⟨by rw [HX.out]; rfl, HGA⟩
        by_cases q2 : 268435456 ≤ at_ - last
        · have HX : Hid (r = 4) := by
            have hwe := HWF.out
            rw [if_neg q1, if_pos q2] at hwe
            unfold Hid; rw [HB.out (by rw [hwe]; decide), hwe]
          have q3 : 268435455 < at_ - last := by omega
          clear HWF HA HB
          go_wp2_with fail
          go_ret
          exact ⟨by rw [HX.out]; rfl, HGA⟩
        have HX : Hid (r = wrongL at_ (es.drop (k1 + 1 + 1))) := by
          have hwe := HWF.out
          rw [if_neg q1, if_neg q2] at hwe
          unfold Hid; exact HA.out hwe
        have q3 : ¬ 268435455 < at_ - last := by omega
        clear HWF HA HB
        go_wp2_with fail
        go_roundw
        case rel => exact ⟨k1 + 1 + 1, at_, by omega, by go_num, by omega, HLN, HX, HGA⟩
        case measure => simp [intOf]; omega
    · obtain rfl : k = n := by omega
      have HX : Hid (r = 0) := by
        have := HR.out
        rw [List.drop_eq_nil_of_le (by rw [HN.out]; exact Nat.le_refl _)] at this
        exact this
      go_wp2_with fail
      go_ret
      exact ⟨by rw [HX.out]; rfl, HG⟩

end Go.Proofs.Ythmcicmebaibgaa.TRWrong
