/- The law StepsSeek: its walk. -/
import Derived.Test.YthmcicmebaibgaaTLit
namespace Go.Proofs.Ythmcicmebaibgaa.TSeek
open Go Go.RowKit Go.Proofs.Ythmcicmebaibgaa.WMod Go.Proofs.Ythmcicmebaibgaa.TMod Go.Proofs.Ythmcicmebaibgaa.TRead Go.Proofs.Ythmcicmebaibgaa.TNext Go.Proofs.Ythmcicmebaibgaa.TPlr Go.Proofs.Ythmcicmebaibgaa.TPm Go.Proofs.Ythmcicmebaibgaa.TPly Go.Proofs.Ythmcicmebaibgaa.TAlive Go.Proofs.Ythmcicmebaibgaa.TLit Go.Proofs.Ythmcicmebaibgaa.Opn Go.Proofs.Ythmcicmebaibgaa.Hp Go.Proofs.Ythmcicmebaibgaa.Rd Go.Proofs.Ythmcicmebaibgaa.TWWrong Go.Proofs.Ythmcicmebaibgaa.TSame Go.Proofs.Ythmcicmebaibgaa.TSameQ
set_option linter.unusedVariables false
set_option linter.unusedSimpArgs false

set_option maxHeartbeats 6000000 in
set_option maxRecDepth 100000 in
theorem law (f : For) (v : Value) (at_ ticks : Int) (w : World) (hsec : Secs w v f) :
    Calls Try.prog 5 #[v, .int .i64 at_, .int .i64 ticks] w fun e w' => e = .returned (.bool true) ∧ Hid (w.grownBy w' none) := by
  have HSEC := Lib.hid hsec
  have AL := Lib.hid (fun w' => alive_calls w')
  clear hsec
  by_cases a0 : at_ < 0
  · go_enter Try.func5, Try.ntmps5
    go_wp2_with (go_at_call 12; refine (AL.out _).mono ?_; rintro e1 w1 ⟨rfl, hg1⟩)
    go_ret
    exact ⟨rfl, hg1.out⟩
  by_cases a1 : 1099511627776 < at_
  · have a0' : (0 : Int) ≤ at_ := by omega
    clear a0
    go_enter Try.func5, Try.ntmps5
    go_wp2_with (go_at_call 12; refine (AL.out _).mono ?_; rintro e1 w1 ⟨rfl, hg1⟩)
    go_ret
    exact ⟨rfl, hg1.out⟩
  by_cases b0 : ticks < 0
  · have a0' : (0 : Int) ≤ at_ := by omega
    have a1' : at_ ≤ 1099511627776 := by omega
    clear a0 a1
    go_enter Try.func5, Try.ntmps5
    go_wp2_with (go_at_call 12; refine (AL.out _).mono ?_; rintro e1 w1 ⟨rfl, hg1⟩)
    go_ret
    exact ⟨rfl, hg1.out⟩
  by_cases b1 : 1099511627776 < ticks
  · have a0' : (0 : Int) ≤ at_ := by omega
    have a1' : at_ ≤ 1099511627776 := by omega
    have b0' : (0 : Int) ≤ ticks := by omega
    clear a0 a1 b0
    go_enter Try.func5, Try.ntmps5
    go_wp2_with (go_at_call 12; refine (AL.out _).mono ?_; rintro e1 w1 ⟨rfl, hg1⟩)
    go_ret
    exact ⟨rfl, hg1.out⟩
  have a0' : (0 : Int) ≤ at_ := by omega
  have a1' : at_ ≤ 1099511627776 := by omega
  have b0' : (0 : Int) ≤ ticks := by omega
  have b1' : ticks ≤ 1099511627776 := by omega
  clear a0 a1 b0 b1
  go_enter Try.func5, Try.ntmps5
  go_upto_region 5 with (go_at_call 12; refine (AL.out _).mono ?_; rintro e1 w1 ⟨rfl, hg1⟩)
  obtain ⟨wa, rfl⟩ : ∃ wa : World, wa = w1 := ⟨_, rfl⟩
  have PC := Lib.hid (Play_calls f v (some ⟨wa.heap.size, 0, none⟩) 1 [⟨at_, ticks⟩] (wa.alloc (.cells #[.int .i64 at_, .int .i64 ticks] 31)) (HSEC.out.grown (grown_alloc hg1.out _)) (turn1 wa at_ ticks) (by simp))
  have HG2 : Hid (w.grownBy (wa.alloc (.cells #[.int .i64 at_, .int .i64 ticks] 31)) none) := grown_alloc hg1.out _
  rw [List.length_singleton] at PC
  by_cases hL : longE f = 0
  · have HL := Lib.hid hL
    clear hL
    go_upto_region 6 with (go_at_call 9; refine (PC.out).mono ?_; rintro e2 w2 ⟨hp2, hg2⟩; rcases hp2.out with ⟨hx, _⟩ | ⟨_, v2, rfl, hpl2⟩; (exact absurd HL.out hx))
    obtain ⟨wb, rfl⟩ : ∃ wb : World, wb = w2 := ⟨_, rfl⟩
    have HPL := Lib.hid hpl2
    have HGB : Hid (w.grownBy wb none) := grown_trans HG2.out hg2.out
    clear hp2 hpl2
    have PC2 := Lib.hid (Play_calls f v (some ⟨wb.heap.size, 0, none⟩) 2 [⟨-1, at_⟩, ⟨-1, ticks⟩] (wb.alloc (.cells #[.int .i64 (-1), .int .i64 at_, .int .i64 (-1), .int .i64 ticks] 31)) (HSEC.out.grown (grown_alloc HGB.out _)) (turn2 wb (-1) at_ (-1) ticks) (by simp))
    have HGB2 : Hid (w.grownBy (wb.alloc (.cells #[.int .i64 (-1), .int .i64 at_, .int .i64 (-1), .int .i64 ticks] 31)) none) := grown_alloc HGB.out _
    have HGBB : Hid (wb.grownBy (wb.alloc (.cells #[.int .i64 (-1), .int .i64 at_, .int .i64 (-1), .int .i64 ticks] 31)) none) := grown_alloc (grown_refl _ _) _
    simp only [List.length_cons, List.length_nil, Nat.zero_add, Nat.reduceAdd] at PC2
    go_upto_region 7 with (go_at_call 9; refine (PC2.out).mono ?_; rintro e3 w3 ⟨hp3, hg3⟩; rcases hp3.out with ⟨hx, _⟩ | ⟨_, v3, rfl, hpl3⟩; (exact absurd HL.out hx))
    obtain ⟨wc, rfl⟩ : ∃ wc : World, wc = w3 := ⟨_, rfl⟩
    have HGC : Hid (w.grownBy wc none) := grown_trans HGB2.out hg3.out
    have HPA : Hid (Pls wc v2 [⟨0, (nextR f at_ ticks).2.2, (nextR f at_ ticks).1, (nextR f at_ ticks).2.1⟩]) := by
      unfold Hid
      rw [← seek_turn f a0' (by omega)]
      exact pls_grown HPL.out (grown_trans HGBB.out hg3.out)
    have HPB : Hid (Pls wc v3 [turnR f 0 ⟨-1, at_⟩, turnR f (turnR f 0 ⟨-1, at_⟩).at_ ⟨-1, ticks⟩]) := hpl3
    rw [go_turn, go_turn] at HPB
    clear hp3 hpl3 HPL
    obtain ⟨a2, c2, rfl⟩ := slc_open HPA.out
    obtain ⟨a3, c3, rfl⟩ := slc_open HPB.out
    obtain ⟨b2, o2, ve2, rfl, _, r21, r22, r23, hev2⟩ := pls_at HPA.out (k := 0) rfl
    obtain ⟨b3, o3, ve3, rfl, _, r31, _, _, _⟩ := pls_at HPB.out (k := 0) rfl
    obtain ⟨b4, o4, ve4, hq4, _, r41, r42, r43, hev4⟩ := pls_at HPB.out (k := 1) rfl
    simp only [Option.some.injEq, Addr.mk.injEq, and_true] at hq4
    obtain ⟨rfl, rfl⟩ := hq4
    simp only [Nat.zero_mul, Nat.add_zero, Nat.one_mul, List.length_cons, List.length_nil, Nat.zero_add, Nat.reduceAdd] at r21 r22 r23 r31 r41 r42 r43 ⊢
    have HFST : Hid ((nextR f 0 at_).2.2 = 0 → (nextR f 0 at_).2.1 = at_) := by
      unfold Hid nextR
      rw [if_neg (by omega)]
      split
      · intro h; cases h
      · intro _; simp
    obtain ⟨er1, her1⟩ : ∃ er1, (nextR f 0 at_).2.2 = er1 := ⟨_, rfl⟩
    rw [her1] at r31 HFST
    by_cases hz : er1 = 0
    · have h1 := HFST.out hz
      rw [h1] at r41 r43 hev4
      subst hz
      obtain ⟨er, her⟩ : ∃ er, (nextR f at_ ticks).2.2 = er := ⟨_, rfl⟩
      obtain ⟨es, hes⟩ : ∃ es, (nextR f at_ ticks).1 = es := ⟨_, rfl⟩
      obtain ⟨ap, hap⟩ : ∃ ap, (nextR f at_ ticks).2.1 = ap := ⟨_, rfl⟩
      have hle := nextR_len f at_ ticks
      rw [hes] at hev2 hev4 hle
      rw [her] at r21 r41
      rw [hap] at r23 r43
      obtain ⟨x2, y2, rfl⟩ := evs_len hev2
      obtain ⟨x4, y4, rfl⟩ := evs_len hev4
      have SQ := Lib.hid (fun m => same_quiet x2 x4 y2 y4 es (wc.drewN m) (evs_grown hev2 (grown_drewN (grown_refl _ _) _)) (evs_grown hev4 (grown_drewN (grown_refl _ _) _)) (by omega))
      obtain ⟨ln, hln⟩ : ∃ ln, es.length = ln := ⟨_, rfl⟩
      rw [hln] at r22 r42 SQ
      clear hev2 hev4 hle her her1 hes hap h1 hln HFST HPA HPB
      go_upto_region 13 with fail
      go_quiet ((go_at_call 11; refine Calls.quiet_of (SQ.out _)))
      go_wp2_with fail
      go_ret
      exact ⟨rfl, grown_drewN HGC.out _⟩
    · have hzb : (er1 != 0) = true := by simpa using hz
      obtain ⟨x2, y2, rfl⟩ := evs_len hev2
      clear hz HFST HPA HPB hev2 hev4 r42 r43 r41 r21 r22 r23 her1
      go_upto_region 13 with fail
      go_quiet (fail)
      go_wp2_with fail
      go_ret
      exact ⟨rfl, grown_drewN HGC.out _⟩
  · have HL := Lib.hid hL
    obtain ⟨LE, hLE⟩ : ∃ LE, longE f = LE := ⟨_, rfl⟩
    have hz : (LE != 0) = true := by rw [← hLE]; simpa using hL
    have HLE := Lib.hid hLE
    clear hL hLE
    go_upto_region 6 with (go_at_call 9; refine (PC.out).mono ?_; rintro e2 w2 ⟨hp2, hg2⟩; rcases hp2.out with ⟨_, rfl⟩ | ⟨hx, _⟩; rotate_left; (exact absurd hx HL.out); rw [HLE.out])
    obtain ⟨wb, rfl⟩ : ∃ wb : World, wb = w2 := ⟨_, rfl⟩
    have HGB : Hid (w.grownBy wb none) := grown_trans HG2.out hg2.out
    clear hp2
    have PC2 := Lib.hid (Play_calls f v (some ⟨wb.heap.size, 0, none⟩) 2 [⟨-1, at_⟩, ⟨-1, ticks⟩] (wb.alloc (.cells #[.int .i64 (-1), .int .i64 at_, .int .i64 (-1), .int .i64 ticks] 31)) (HSEC.out.grown (grown_alloc HGB.out _)) (turn2 wb (-1) at_ (-1) ticks) (by simp))
    have HGB2 : Hid (w.grownBy (wb.alloc (.cells #[.int .i64 (-1), .int .i64 at_, .int .i64 (-1), .int .i64 ticks] 31)) none) := grown_alloc HGB.out _
    simp only [List.length_cons, List.length_nil, Nat.zero_add, Nat.reduceAdd] at PC2
    go_upto_region 7 with (go_at_call 9; refine (PC2.out).mono ?_; rintro e3 w3 ⟨hp3, hg3⟩; rcases hp3.out with ⟨_, rfl⟩ | ⟨hx, _⟩; rotate_left; (exact absurd hx HL.out); rw [HLE.out])
    obtain ⟨wc, rfl⟩ : ∃ wc : World, wc = w3 := ⟨_, rfl⟩
    have HGC : Hid (w.grownBy wc none) := grown_trans HGB2.out hg3.out
    clear hp3
    go_wp2_with fail
    go_ret
    exact ⟨rfl, HGC.out⟩
end Go.Proofs.Ythmcicmebaibgaa.TSeek
