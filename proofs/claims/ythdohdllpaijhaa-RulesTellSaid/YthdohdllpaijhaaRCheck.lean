/- Check: the walk. -/
import Derived.Test.YthdohdllpaijhaaRWrong
namespace Go.Proofs.Ythdohdllpaijhaa.RCheck
open Go Go.RowKit Go.Proofs.Ythdohdllpaijhaa.RMod Go.Proofs.Ythdohdllpaijhaa.RWrong Go.Proofs.Ythdohdllpaijhaa.RAlone Go.Proofs.Ythdohdllpaijhaa.Hp Go.Proofs.Ythdohdllpaijhaa.Rd
set_option linter.unusedVariables false
set_option linter.unusedSimpArgs false

/-- Was the key ahead of place i the same as the one ahead of that? -/
def sameB (l : List Int) (i : Nat) : Bool := decide (2 ≤ i) && (at_ l (i - 1) == at_ l (i - 2))
/-- What a line breaks at a place. -/
def brkZ (r : Ru) (g l : List Int) (i : Nat) : Int :=
  if aloneZ r g i (at_ l i) = 0 ∧ 0 < i then behindZ r g i (at_ l i) (at_ l (i - 1)) (sameB l i) else aloneZ r g i (at_ l i)
/-- The first thing that is broken within the first places, and where. -/
def chkW (r : Ru) (g l : List Int) : Nat → Int
  | 0 => 0
  | k + 1 => if brkZ r g l k ≠ 0 ∧ chkW r g l k = 0 then brkZ r g l k else chkW r g l k
def chkP (r : Ru) (g l : List Int) : Nat → Int
  | 0 => 0
  | k + 1 => if brkZ r g l k ≠ 0 ∧ chkW r g l k = 0 then (k : Int) else chkP r g l k

def chkE (r : Ru) (g l : List Int) : Int := if wrongR r g = 0 then (if l.length ≠ g.length then 8 else if l.all keyB = true then 0 else 3) else wrongR r g
def chkA (r : Ru) (g l : List Int) : Int := if chkE r g l = 0 then chkW r g l l.length else 0
def chkB (r : Ru) (g l : List Int) : Int := if chkE r g l = 0 then chkP r g l l.length else 0

/-- .. and as the program counts it. -/
def smZ (l : List Int) : Nat → Int
  | 0 => 0
  | k + 1 => if 0 < k ∧ at_ l k = at_ l (k - 1) then smZ l k + 1 else 0

theorem smZ_le (l : List Int) : ∀ k, 0 ≤ smZ l k ∧ smZ l k ≤ k
  | 0 => by simp [smZ]
  | k + 1 => by
    have := smZ_le l k
    unfold smZ
    split <;> omega

theorem smZ_same (l : List Int) (k : Nat) : sameB l k = decide (0 < smZ l k) := by
  unfold sameB
  match k with
  | 0 => rfl
  | 1 => simp [smZ]
  | k + 2 =>
    have := smZ_le l (k + 1)
    rw [show k + 2 = (k + 1) + 1 from rfl, smZ]
    by_cases h : at_ l (k + 1) = at_ l k
    · rw [if_pos ⟨by omega, by simpa using h⟩]
      simp [h]; omega
    · rw [if_neg (fun x => h (by simpa using x.2))]
      simp [h]

set_option maxHeartbeats 4000000 in
set_option maxRecDepth 100000 in
theorem check_calls (r : Ru) (a1 a2 : Option Addr) (c1 c2 : Nat) (g l : List Int) (w : World) (hl63 : l.length < 9223372036854775807) (hv : Ils w (.slice a1 g.length c1) g) (hl : Ils w (.slice a2 l.length c2) l) :
    Calls Try.prog 12 #[.agg #[.int .i64 r.low, .int .i64 r.high, .bool r.above, .int .i64 r.leap, .int .i64 r.classes], .slice a1 g.length c1, .slice a2 l.length c2] w
      fun e w' => e = .returned (.tuple #[.int .i64 (chkA r g l), .int .i64 (chkB r g l), .int .i64 (chkE r g l)]) ∧ Hid (w.grownBy w' none) := by
  have W1 := Lib.hid (fun w' hg => wrong_calls r a1 c1 g w' (Ils.grown hv hg))
  have HG0 : ∀ o, Hid (w.grownBy (w.alloc o) none) := fun o => grown_alloc (grown_refl _ _) _
  obtain ⟨VA, hVA⟩ : ∃ x, chkA r g l = x := ⟨_, rfl⟩
  obtain ⟨VB, hVB⟩ : ∃ x, chkB r g l = x := ⟨_, rfl⟩
  obtain ⟨VE, hVE⟩ : ∃ x, chkE r g l = x := ⟨_, rfl⟩
  obtain ⟨R, hR⟩ : ∃ R, wrongR r g = R := ⟨_, rfl⟩
  obtain ⟨n, hn⟩ : ∃ n, g.length = n := ⟨_, rfl⟩
  obtain ⟨m, hm⟩ : ∃ n, l.length = n := ⟨_, rfl⟩
  have HR := Lib.hid hR
  have HN := Lib.hid hn
  have HM := Lib.hid hm
  have HVA := Lib.hid hVA
  have HVB := Lib.hid hVB
  have HVE := Lib.hid hVE
  rw [hVA, hVB, hVE, hn, hm]
  rw [hR, hn] at W1
  rw [hm] at hl63
  have HV := Lib.hid hv
  have HL := Lib.hid hl
  have ZA : Hid (VE ≠ 0 → VA = 0 ∧ VB = 0) := fun h => by rw [← HVE.out] at h; rw [← HVA.out, ← HVB.out]; unfold chkA chkB; rw [if_neg h, if_neg h]; exact ⟨rfl, rfl⟩
  clear hVA hVB hVE hn hm hv hl
  by_cases h0 : R = 0
  · have hok := okG_of (r := r) (g := g) (by rw [HR.out]; exact h0)
    have hlen := hok.len
    rw [HN.out] at hlen
    by_cases hmn : m = n
    · subst hmn
      have A1 : Hid (∀ (i : Nat) (k : Int) (w' : World), i < m → w.grownBy w' none → 0 ≤ k ∧ k ≤ 127 → Calls Try.prog 20 #[.agg #[.int .i64 r.low, .int .i64 r.high, .bool r.above, .int .i64 r.leap, .int .i64 r.classes], .slice a1 m c1, .int .i64 (i : Int), .int .i64 k] w'
          fun e w'' => e = .returned (.int .i64 (aloneZ r g i k)) ∧ Hid (w'.grownBy w'' none)) := by
        intro i k w' hi hg hk
        have h := alone_calls r a1 c1 g i k w' hok (Ils.grown HV.out hg) (by rw [HN.out]; exact hi) hk
        rw [HN.out] at h
        exact h
      have B1 : Hid (∀ (i : Nat) (k lk sm : Int) (ls : Bool) (w' : World), i < m → 0 < i → w.grownBy w' none → 0 ≤ k ∧ k ≤ 127 → 0 ≤ lk ∧ lk ≤ 127 → ls = decide (0 < sm) → Calls Try.prog 19 #[.agg #[.int .i64 r.low, .int .i64 r.high, .bool r.above, .int .i64 r.leap, .int .i64 r.classes], .slice a1 m c1, .int .i64 (i : Int), .int .i64 k, .int .i64 lk, .int .i64 sm] w'
          fun e w'' => e = .returned (.int .i64 (behindZ r g i k lk ls)) ∧ Hid (w'.grownBy w'' none)) := by
        intro i k lk sm ls w' hi hi0 hg hk hlk hs
        have h := behind_calls r a1 c1 g i k lk sm ls w' hok (Ils.grown HV.out hg) (by rw [HN.out]; exact hi) hi0 hk hlk hs
        rw [HN.out] at h
        exact h
      have E0 : Hid (l.all keyB = true → VE = 0 ∧ VA = chkW r g l m ∧ VB = chkP r g l m) := fun h => by
        have e : chkE r g l = 0 := by unfold chkE; rw [HR.out, if_pos h0, HN.out, HM.out, if_neg (by omega), if_pos h]
        refine ⟨by rw [← HVE.out, e], ?_, ?_⟩
        · rw [← HVA.out]; unfold chkA; rw [if_pos e, HM.out]
        · rw [← HVB.out]; unfold chkB; rw [if_pos e, HM.out]
      have E3 : Hid (∀ k : Nat, k < m → keyB (at_ l k) = false → VE = 3 ∧ VA = 0 ∧ VB = 0) := fun k hk h => by
        have hx : l.all keyB = false := by
          rw [List.all_eq_false]
          refine ⟨at_ l k, ?_, by rw [h]; simp⟩
          unfold at_
          rw [List.getD_eq_getElem?_getD, List.getElem?_eq_getElem (by rw [HM.out]; exact hk)]
          exact List.getElem_mem _
        have e : VE = 3 := by rw [← HVE.out]; unfold chkE; rw [HR.out, if_pos h0, HN.out, HM.out, if_neg (by omega), if_neg (by rw [hx]; simp)]
        exact ⟨e, ZA.out (by omega)⟩
      have HC : Hid (∀ k : Nat, k < m → ∃ b off, a2 = some ⟨b, off, none⟩ ∧ w.cell? ⟨b, off + k, none⟩ = some (.int .i64 (at_ l k))) := fun k hk => giv_at HL.out (by rw [HM.out]; exact hk)
      have HTA : Hid (∀ k : Nat, k < m → (l.take k).all keyB = true → keyB (at_ l k) = true → (l.take (k + 1)).all keyB = true) := fun k hk h1 h2 => by
        have e : l.take (k + 1) = l.take k ++ [at_ l k] := by
          rw [List.take_succ_eq_append_getElem (by rw [HM.out]; exact hk)]
          unfold at_
          rw [List.getD_eq_getElem?_getD, List.getElem?_eq_getElem (by rw [HM.out]; exact hk)]
          rfl
        rw [e, List.all_append, h1]
        simp [h2]
      have HTE : Hid ((l.take m).all keyB = true → l.all keyB = true) := fun h => by rwa [List.take_of_length_le (by rw [HM.out]; omega)] at h
      have BZ : Hid (∀ k, brkZ r g l k = if aloneZ r g k (at_ l k) = 0 ∧ 0 < k then behindZ r g k (at_ l k) (at_ l (k - 1)) (sameB l k) else aloneZ r g k (at_ l k)) := fun k => rfl
      have CW : Hid (∀ k, chkW r g l (k + 1) = if brkZ r g l k ≠ 0 ∧ chkW r g l k = 0 then brkZ r g l k else chkW r g l k) := fun k => rfl
      have CP : Hid (∀ k, chkP r g l (k + 1) = if brkZ r g l k ≠ 0 ∧ chkW r g l k = 0 then (k : Int) else chkP r g l k) := fun k => rfl
      have SZ : Hid (∀ k, smZ l (k + 1) = if 0 < k ∧ at_ l k = at_ l (k - 1) then smZ l k + 1 else 0) := fun k => rfl
      have SB : Hid (∀ k, sameB l k = decide (0 < smZ l k) ∧ 0 ≤ smZ l k ∧ smZ l k ≤ k) := fun k => ⟨smZ_same l k, smZ_le l k⟩
      have C0 : Hid (chkW r g l 0 = 0 ∧ chkP r g l 0 = 0 ∧ smZ l 0 = 0) := ⟨rfl, rfl, rfl⟩
      subst h0
      obtain ⟨AZ, hAZ⟩ : ∃ f : Nat → Int → Int, aloneZ r g = f := ⟨_, rfl⟩
      obtain ⟨HZ, hHZ⟩ : ∃ f : Nat → Int → Int → Bool → Int, behindZ r g = f := ⟨_, rfl⟩
      obtain ⟨KW, hKW⟩ : ∃ f : Nat → Int, chkW r g l = f := ⟨_, rfl⟩
      obtain ⟨KP, hKP⟩ : ∃ f : Nat → Int, chkP r g l = f := ⟨_, rfl⟩
      obtain ⟨BK, hBK⟩ : ∃ f : Nat → Int, brkZ r g l = f := ⟨_, rfl⟩
      obtain ⟨SM, hSM⟩ : ∃ f : Nat → Int, smZ l = f := ⟨_, rfl⟩
      obtain ⟨SA, hSA⟩ : ∃ f : Nat → Bool, sameB l = f := ⟨_, rfl⟩
      rw [hAZ] at A1 BZ
      rw [hHZ] at B1 BZ
      simp only [hKW, hKP] at E0 CW CP C0
      simp only [hBK] at BZ CW CP
      simp only [hSM] at SZ SB C0
      simp only [hSA] at BZ SB
      clear hAZ hHZ hKW hKP hBK hSM hSA hok hR HV HL HR ZA HVA HVB HVE
      obtain ⟨low, high, above, leap, classes⟩ := r
      simp only at W1 A1 B1 ⊢
      have HROW0 : Hid ((w.alloc (.cells #[.int .i64 low, .int .i64 high, .bool above, .int .i64 leap, .int .i64 classes] 23)).heap[w.heap.size]? = some (.cells #[.int .i64 low, .int .i64 high, .bool above, .int .i64 leap, .int .i64 classes] 23 (0, 0))) := heap_alloc_new _ _
      have HS0 : Hid (w.heap.size < (w.alloc (.cells #[.int .i64 low, .int .i64 high, .bool above, .int .i64 leap, .int .i64 classes] 23)).heap.size) := by unfold Hid; simp
      go_enter Try.func12, Try.ntmps12
      go_upto_region 6 with (go_at_call 10; refine (W1.out _ (HG0 _).out).mono ?_; rintro e w1 ⟨rfl, hg1⟩)
      have HG1 : Hid (w.grownBy w1 none) := grown_trans (HG0 _).out hg1.out
      have HROW1 : Hid (w1.heap[w.heap.size]? = some (.cells #[.int .i64 low, .int .i64 high, .bool above, .int .i64 leap, .int .i64 classes] 23 (0, 0))) := by
        unfold Hid; rw [hg1.out.block _ HS0.out (by simp)]; exact HROW0.out
      obtain ⟨gb, hgb⟩ : ∃ gb, w.heap.size = gb := ⟨_, rfl⟩
      rw [hgb] at HROW1
      simp only [hgb]
      clear hgb hg1 HROW0 HS0 HG0 W1
      go_wp2_with fail
      obtain ⟨cv0, cv1, cv2⟩ := C0.out
      go_loopw [6, 7, 10, 27] (fun v6 v7 v10 v27 wr => ∃ k : Nat, k ≤ m ∧ v27 = .int .i64 (k : Int) ∧ v6 = .int .i64 (KW k) ∧ v7 = .int .i64 (KP k) ∧ v10 = .int .i64 (SM k) ∧ Hid ((l.take k).all keyB = true) ∧ Hid (w1.grownBy wr none)) (fun _ _ _ v27 _ => m - (intOf v27).toNat)
      case atStart => exact ⟨0, Nat.zero_le _, rfl, by rw [cv0], by rw [cv1], by rw [cv2], by unfold Hid; simp, grown_refl _ _⟩
      case round =>
        clear cv0 cv1 cv2
        obtain ⟨k, hk, rfl, rfl, rfl, rfl, HTK, HG⟩ := hrel
        by_cases hend : k = m
        · obtain ⟨x1, x2, x3⟩ := E0.out (HTE.out (hend ▸ HTK.out))
          have HX1 := Lib.hid x1
          have HX2 := Lib.hid x2
          have HX3 := Lib.hid x3
          clear x1 x2 x3
          subst hend
          go_wp2_with fail
          go_ret3
          exact ⟨by rw [HX1.out, HX2.out, HX3.out]; rfl, grown_trans HG1.out HG.out⟩
        have hlt : k < m := by omega
        obtain ⟨b, off, rfl, hc⟩ := HC.out k hlt
        have HGW : Hid (w.grownBy wr none) := grown_trans HG1.out HG.out
        have hcell := grown_cell HGW.out hc (by simp)
        obtain ⟨x, hx⟩ : ∃ x, at_ l k = x := ⟨_, rfl⟩
        have HXE := Lib.hid hx
        have hE3 := Lib.hid (E3.out k hlt)
        have hTA := Lib.hid (HTA.out k hlt HTK.out)
        rw [hx] at hcell hE3 hTA
        clear hc hx
        have HBAD : Hid (keyB x = false → VE = 3 ∧ VA = 0 ∧ VB = 0) := hE3.out
        by_cases hx0 : x < 0
        · obtain ⟨x1, x2, x3⟩ := HBAD.out (by unfold keyB; rw [decide_eq_false (by omega)]; rfl)
          have HX1 := Lib.hid x1
          have HX2 := Lib.hid x2
          have HX3 := Lib.hid x3
          clear x1 x2 x3
          go_wp2_with fail
          go_ret3
          exact ⟨by rw [HX1.out, HX2.out, HX3.out]; rfl, HGW.out⟩
        by_cases hx1 : 127 < x
        · obtain ⟨x1, x2, x3⟩ := HBAD.out (by unfold keyB; rw [decide_eq_false (p := x ≤ 127) (by omega), Bool.and_false])
          have HX1 := Lib.hid x1
          have HX2 := Lib.hid x2
          have HX3 := Lib.hid x3
          clear x1 x2 x3
          go_wp2_with fail
          go_ret3
          exact ⟨by rw [HX1.out, HX2.out, HX3.out]; rfl, HGW.out⟩
        have hxb : 0 ≤ x ∧ x ≤ 127 := by omega
        have HTK1 := Lib.hid (hTA.out (by unfold keyB; rw [decide_eq_true hxb.1, decide_eq_true hxb.2]; rfl))
        have HAC := Lib.hid (fun w' hg => A1.out k x w' hlt hg hxb)
        have HBK := Lib.hid (BZ.out k)
        have HCW := Lib.hid (CW.out k)
        have HCP := Lib.hid (CP.out k)
        have HSZ := Lib.hid (SZ.out k)
        obtain ⟨hsb, hs0, hs1⟩ := SB.out k
        have HSB := Lib.hid hsb
        rw [HXE.out] at HBK HSZ
        obtain ⟨al, hal⟩ : ∃ a, AZ k x = a := ⟨_, rfl⟩
        obtain ⟨W, hW⟩ : ∃ a, KW k = a := ⟨_, rfl⟩
        obtain ⟨PP, hPP⟩ : ∃ a, KP k = a := ⟨_, rfl⟩
        obtain ⟨sm, hsm⟩ : ∃ a, SM k = a := ⟨_, rfl⟩
        obtain ⟨bz, hbz⟩ : ∃ a, BK k = a := ⟨_, rfl⟩
        rw [hal] at HAC HBK
        rw [hW] at HCW HCP
        rw [hPP] at HCP
        rw [hsm] at HSZ HSB hs0 hs1
        rw [hbz] at HCW HCP HBK
        simp only [hW, hPP, hsm]
        have HRW : wr.heap[gb]? = some (.cells #[.int .i64 low, .int .i64 high, .bool above, .int .i64 leap, .int .i64 classes] 23 (0, 0)) := by
          rw [HG.out.block gb (lt_of HROW1.out) (by simp)]; exact HROW1.out
        have r0 := cell_of HRW 0
        have r1 := cell_of HRW 1
        have r2 := cell_of HRW 2
        have r3 := cell_of HRW 3
        have r4 := cell_of HRW 4
        have HRWH := Lib.hid HRW
        clear hsb hal hW hPP hsm hbz HRW HXE
        obtain hk0 | ⟨j, hkj⟩ : k = 0 ∨ ∃ j : Nat, k = j + 1 := by cases k with | zero => exact .inl rfl | succ j => exact .inr ⟨j, rfl⟩
        · have HB : Hid (bz = al) := by unfold Hid; rw [HBK.out, if_neg (by omega)]
          have hkz : (k : Int) ≤ 0 := by omega
          have hkd : decide ((0 : Int) < (k : Int)) = false := by simp; omega
          have HS1 : Hid (SM (k + 1) = 0) := by unfold Hid; rw [HSZ.out, if_neg (by omega)]
          clear hk0 HBK HSZ
          by_cases ha : al = 0
          · obtain rfl : bz = 0 := HB.out.trans ha
            subst ha
            have HW1 : Hid (KW (k + 1) = W) := by unfold Hid; rw [HCW.out, if_neg (fun h => h.1 rfl)]
            have HP1 : Hid (KP (k + 1) = PP) := by unfold Hid; rw [HCP.out, if_neg (fun h => h.1 rfl)]
            go_wp2_with (go_at_call 20; refine (HAC.out _ HGW.out).mono ?_; rintro e w4 ⟨rfl, hg4⟩)
            exact ⟨⟨k + 1, by omega, rfl, by rw [HW1.out], by rw [HP1.out], by rw [HS1.out], HTK1.out, grown_trans HG.out hg4.out⟩, by simp only [intOf]; omega⟩
          · have ha' : (al == 0) = false := by simpa using ha
            have ha2 : (al != 0) = true := by simpa using ha
            have HBN : Hid (bz ≠ 0) := by unfold Hid; rw [HB.out]; exact ha
            by_cases hW0 : W = 0
            · have hWb : (W == 0) = true := by simpa using hW0
              have HW1 : Hid (KW (k + 1) = al) := by unfold Hid; rw [HCW.out, if_pos ⟨HBN.out, hW0⟩]; exact HB.out
              have HP1 : Hid (KP (k + 1) = (k : Int)) := by unfold Hid; rw [HCP.out, if_pos ⟨HBN.out, hW0⟩]
              clear hW0
              go_wp2_with (go_at_call 20; refine (HAC.out _ HGW.out).mono ?_; rintro e w4 ⟨rfl, hg4⟩)
              exact ⟨⟨k + 1, by omega, rfl, by rw [HW1.out], by rw [HP1.out], by rw [HS1.out], HTK1.out, grown_trans HG.out hg4.out⟩, by simp only [intOf]; omega⟩
            · have hWb : (W == 0) = false := by simpa using hW0
              have HW1 : Hid (KW (k + 1) = W) := by unfold Hid; rw [HCW.out, if_neg (fun h => hW0 h.2)]
              have HP1 : Hid (KP (k + 1) = PP) := by unfold Hid; rw [HCP.out, if_neg (fun h => hW0 h.2)]
              clear hW0
              go_wp2_with (go_at_call 20; refine (HAC.out _ HGW.out).mono ?_; rintro e w4 ⟨rfl, hg4⟩)
              exact ⟨⟨k + 1, by omega, rfl, by rw [HW1.out], by rw [HP1.out], by rw [HS1.out], HTK1.out, grown_trans HG.out hg4.out⟩, by simp only [intOf]; omega⟩
        · have hjm : j < m := by omega
          obtain ⟨b', off', he, hc⟩ := HC.out j hjm
          simp only [Option.some.injEq, Addr.mk.injEq, and_true] at he
          obtain ⟨rfl, rfl⟩ := he
          have hcell2 := grown_cell HGW.out hc (by simp)
          have hjx := Lib.hid (rfl : at_ l j = at_ l j)
          obtain ⟨y, hy⟩ : ∃ y, at_ l j = y := ⟨_, rfl⟩
          have HYE := Lib.hid hy
          rw [show k - 1 = j from by omega] at HBK HSZ
          rw [hy] at hcell2 HBK HSZ
          have hyb : 0 ≤ y ∧ y ≤ 127 := by
            have hmem : y ∈ l.take k := by
              rw [← hy]
              unfold at_
              rw [List.getD_eq_getElem?_getD, List.getElem?_eq_getElem (by rw [HM.out]; exact hjm)]
              simp only [Option.getD_some]
              rw [List.mem_take_iff_getElem]
              exact ⟨j, by rw [HM.out]; omega, rfl⟩
            have := List.all_eq_true.1 HTK.out y hmem
            unfold keyB at this
            simpa using this
          have hkz : (0 : Int) < (k : Int) := by omega
          have hkd : decide ((0 : Int) < (k : Int)) = true := by simp; omega
          have hkj1 : (k : Int) - 1 = (j : Int) := by omega
          have HK0 : Hid (0 < k) := by unfold Hid; omega
          have HSX : Hid (SM (k + 1) = if x = y then sm + 1 else 0) := by unfold Hid; rw [HSZ.out]; by_cases h : x = y <;> simp [h]; omega
          clear hc hy hjx hkj HSZ
          by_cases ha : al = 0
          · subst ha
            have HB : Hid (bz = HZ k x y (SA k)) := by unfold Hid; rw [HBK.out, if_pos ⟨rfl, HK0.out⟩]
            have HBC := Lib.hid (fun w' hg => B1.out k x y sm (SA k) w' hlt HK0.out hg hxb hyb HSB.out)
            rw [← HB.out] at HBC
            clear HBK
            go_upto_region 14 with (go_at_call 20; refine (HAC.out _ HGW.out).mono ?_; rintro e w4 ⟨rfl, hg4⟩)
            have HGW4 : Hid (w.grownBy w4 none) := grown_trans HGW.out hg4.out
            have HRW4 : Hid (w4.heap[gb]? = some (.cells #[.int .i64 low, .int .i64 high, .bool above, .int .i64 leap, .int .i64 classes] 23 (0, 0))) := by
              unfold Hid; rw [hg4.out.block gb (lt_of HRWH.out) (by simp)]; exact HRWH.out
            have hcell4 := grown_cell hg4.out hcell2 (by simp)
            have HC4 := Lib.hid hcell4
            have HCX := Lib.hid (grown_cell hg4.out hcell (by simp))
            have ei : IntKind.i64.wrap ((k : Int) - 1) = (j : Int) := by rw [IntWalk.i64_in _ (by omega)]; exact hkj1
            have hjm' : (j : Int) < (m : Int) := by omega
            have hne := Mixed.Later.nonempty w4
            have k0 : ∀ n : Mixed.Later w4, n.w.cell? ⟨gb, 0, none⟩ = some (.int .i64 low) := Mixed.Later.cell (cell_of HRW4.out 0)
            have k1 : ∀ n : Mixed.Later w4, n.w.cell? ⟨gb, 1, none⟩ = some (.int .i64 high) := Mixed.Later.cell (cell_of HRW4.out 1)
            have k2 : ∀ n : Mixed.Later w4, n.w.cell? ⟨gb, 2, none⟩ = some (.bool above) := Mixed.Later.cell (cell_of HRW4.out 2)
            have k3 : ∀ n : Mixed.Later w4, n.w.cell? ⟨gb, 3, none⟩ = some (.int .i64 leap) := Mixed.Later.cell (cell_of HRW4.out 3)
            have k4 : ∀ n : Mixed.Later w4, n.w.cell? ⟨gb, 4, none⟩ = some (.int .i64 classes) := Mixed.Later.cell (cell_of HRW4.out 4)
            have k5 : ∀ n : Mixed.Later w4, n.w.cell? ⟨b, off + j, none⟩ = some (.int .i64 y) := Mixed.Later.cell hcell4
            clear r0 r1 r2 r3 r4 hcell hcell2 hcell4
            refine Mixed.wp_region_mixed (Mixed.late w4) (fun k => k == 10) (by kernel_rfl) (by kernel_rfl) (Mixed.late_of (grown_drew (grown_refl _ _))) ?_
            unfold Mixed.late
            refine Mixed.wpM_quiet rfl rfl rfl ?_; intro Kx hKx; go_big_quiet_op; go_big_quiet_on
            refine Mixed.wpM_quiet rfl rfl rfl ?_; intro Kx hKx; go_big_quiet_op; go_big_quiet_on
            refine Mixed.wpM_quiet rfl rfl rfl ?_; intro Kx hKx; go_big_quiet_op; go_big_quiet_on
            refine Mixed.wpM_quiet rfl rfl rfl ?_; intro Kx hKx; go_big_quiet_op; go_big_quiet_on
            refine Mixed.wpM_quiet rfl rfl rfl ?_; intro Kx hKx; go_big_quiet_op; go_big_quiet_on
            refine Mixed.wpM_quiet rfl rfl rfl ?_; intro Kx hKx; go_big_quiet_op; go_big_quiet_on
            refine Mixed.wpM_quiet rfl rfl rfl ?_; intro Kx hKx; go_big_quiet_op; go_big_quiet_on
            refine Mixed.wpM_quiet rfl rfl rfl ?_; intro Kx hKx; go_big_quiet_op; go_big_quiet_on
            refine Mixed.wpM_quiet rfl rfl rfl ?_; intro Kx hKx; go_big_quiet_op; go_big_quiet_on
            refine Mixed.wpM_quiet rfl rfl rfl ?_; intro Kx hKx; go_big_quiet_op; go_big_quiet_on
            refine Mixed.wpM_call rfl rfl 19 _ (by go_simp; rfl) ?_
            refine (HBC.out _ (grown_drew HGW4.out)).mono ?_
            rintro e w5 ⟨rfl, hg5⟩
            have HG45 : Hid (w4.grownBy w5 none) := grown_trans (grown_drew (grown_refl _ _)) hg5.out
            refine ⟨_, rfl, ⟨⟨w5, HG45.out⟩, rfl⟩, ?_⟩
            go_simp
            refine Mixed.wpM_quiet rfl rfl rfl ?_; intro Kx hKx; go_big_quiet_op; go_big_quiet_on
            refine Mixed.wpM_nil ?_
            intro nx hnx
            clear nx hnx k0 k1 k2 k3 k4 k5 hne ei
            have hcx5 := grown_cell HG45.out HCX.out (by simp)
            have hcy5 := grown_cell HG45.out HC4.out (by simp)
            have HGL : Hid (wr.grownBy w5 none) := grown_trans hg4.out HG45.out
            clear hg5 hg4
            by_cases hb0 : bz = 0
            · have HW1 : Hid (KW (k + 1) = W) := by unfold Hid; rw [HCW.out, if_neg (fun h => h.1 hb0)]
              have HP1 : Hid (KP (k + 1) = PP) := by unfold Hid; rw [HCP.out, if_neg (fun h => h.1 hb0)]
              have hbb : (bz != 0) = false := by simpa using hb0
              clear hb0
              by_cases hxy : x = y
              · subst hxy
                have HS1 : Hid (SM (k + 1) = sm + 1) := by unfold Hid; rw [HSX.out, if_pos rfl]
                go_wp2_with fail
                exact ⟨⟨k + 1, by omega, rfl, by rw [HW1.out], by rw [HP1.out], by rw [HS1.out], HTK1.out, grown_trans HG.out HGL.out⟩, by simp only [intOf]; omega⟩
              · have hxyb : (x == y) = false := by simpa using hxy
                have HS1 : Hid (SM (k + 1) = 0) := by unfold Hid; rw [HSX.out, if_neg hxy]
                go_wp2_with fail
                exact ⟨⟨k + 1, by omega, rfl, by rw [HW1.out], by rw [HP1.out], by rw [HS1.out], HTK1.out, grown_trans HG.out HGL.out⟩, by simp only [intOf]; omega⟩
            · have hbb : (bz != 0) = true := by simpa using hb0
              have HBN : Hid (bz ≠ 0) := hb0
              clear hb0
              by_cases hW0 : W = 0
              · have hWb : (W == 0) = true := by simpa using hW0
                have HW1 : Hid (KW (k + 1) = bz) := by unfold Hid; rw [HCW.out, if_pos ⟨HBN.out, hW0⟩]
                have HP1 : Hid (KP (k + 1) = (k : Int)) := by unfold Hid; rw [HCP.out, if_pos ⟨HBN.out, hW0⟩]
                clear hW0
                by_cases hxy : x = y
                · subst hxy
                  have HS1 : Hid (SM (k + 1) = sm + 1) := by unfold Hid; rw [HSX.out, if_pos rfl]
                  go_wp2_with fail
                  exact ⟨⟨k + 1, by omega, rfl, by rw [HW1.out], by rw [HP1.out], by rw [HS1.out], HTK1.out, grown_trans HG.out HGL.out⟩, by simp only [intOf]; omega⟩
                · have hxyb : (x == y) = false := by simpa using hxy
                  have HS1 : Hid (SM (k + 1) = 0) := by unfold Hid; rw [HSX.out, if_neg hxy]
                  go_wp2_with fail
                  exact ⟨⟨k + 1, by omega, rfl, by rw [HW1.out], by rw [HP1.out], by rw [HS1.out], HTK1.out, grown_trans HG.out HGL.out⟩, by simp only [intOf]; omega⟩
              · have hWb : (W == 0) = false := by simpa using hW0
                have HW1 : Hid (KW (k + 1) = W) := by unfold Hid; rw [HCW.out, if_neg (fun h => hW0 h.2)]
                have HP1 : Hid (KP (k + 1) = PP) := by unfold Hid; rw [HCP.out, if_neg (fun h => hW0 h.2)]
                clear hW0
                by_cases hxy : x = y
                · subst hxy
                  have HS1 : Hid (SM (k + 1) = sm + 1) := by unfold Hid; rw [HSX.out, if_pos rfl]
                  go_wp2_with fail
                  exact ⟨⟨k + 1, by omega, rfl, by rw [HW1.out], by rw [HP1.out], by rw [HS1.out], HTK1.out, grown_trans HG.out HGL.out⟩, by simp only [intOf]; omega⟩
                · have hxyb : (x == y) = false := by simpa using hxy
                  have HS1 : Hid (SM (k + 1) = 0) := by unfold Hid; rw [HSX.out, if_neg hxy]
                  go_wp2_with fail
                  exact ⟨⟨k + 1, by omega, rfl, by rw [HW1.out], by rw [HP1.out], by rw [HS1.out], HTK1.out, grown_trans HG.out HGL.out⟩, by simp only [intOf]; omega⟩
          · have HB : Hid (bz = al) := by unfold Hid; rw [HBK.out, if_neg (fun h => ha h.1)]
            clear HBK
            have ha' : (al == 0) = false := by simpa using ha
            have ha2 : (al != 0) = true := by simpa using ha
            have HBN : Hid (bz ≠ 0) := by unfold Hid; rw [HB.out]; exact ha
            by_cases hW0 : W = 0
            · have hWb : (W == 0) = true := by simpa using hW0
              have HW1 : Hid (KW (k + 1) = al) := by unfold Hid; rw [HCW.out, if_pos ⟨HBN.out, hW0⟩]; exact HB.out
              have HP1 : Hid (KP (k + 1) = (k : Int)) := by unfold Hid; rw [HCP.out, if_pos ⟨HBN.out, hW0⟩]
              clear hW0
              by_cases hxy : x = y
              · subst hxy
                have HS1 : Hid (SM (k + 1) = sm + 1) := by unfold Hid; rw [HSX.out, if_pos rfl]
                go_wp2_with (go_at_call 20; refine (HAC.out _ HGW.out).mono ?_; rintro e w4 ⟨rfl, hg4⟩; have hcw := grown_cell hg4.out hcell2 (by simp))
                exact ⟨⟨k + 1, by omega, rfl, by rw [HW1.out], by rw [HP1.out], by rw [HS1.out], HTK1.out, grown_trans HG.out hg4.out⟩, by simp only [intOf]; omega⟩
              · have hxyb : (x == y) = false := by simpa using hxy
                have HS1 : Hid (SM (k + 1) = 0) := by unfold Hid; rw [HSX.out, if_neg hxy]
                go_wp2_with (go_at_call 20; refine (HAC.out _ HGW.out).mono ?_; rintro e w4 ⟨rfl, hg4⟩; have hcw := grown_cell hg4.out hcell2 (by simp))
                exact ⟨⟨k + 1, by omega, rfl, by rw [HW1.out], by rw [HP1.out], by rw [HS1.out], HTK1.out, grown_trans HG.out hg4.out⟩, by simp only [intOf]; omega⟩
            · have hWb : (W == 0) = false := by simpa using hW0
              have HW1 : Hid (KW (k + 1) = W) := by unfold Hid; rw [HCW.out, if_neg (fun h => hW0 h.2)]
              have HP1 : Hid (KP (k + 1) = PP) := by unfold Hid; rw [HCP.out, if_neg (fun h => hW0 h.2)]
              clear hW0
              by_cases hxy : x = y
              · subst hxy
                have HS1 : Hid (SM (k + 1) = sm + 1) := by unfold Hid; rw [HSX.out, if_pos rfl]
                go_wp2_with (go_at_call 20; refine (HAC.out _ HGW.out).mono ?_; rintro e w4 ⟨rfl, hg4⟩; have hcw := grown_cell hg4.out hcell2 (by simp))
                exact ⟨⟨k + 1, by omega, rfl, by rw [HW1.out], by rw [HP1.out], by rw [HS1.out], HTK1.out, grown_trans HG.out hg4.out⟩, by simp only [intOf]; omega⟩
              · have hxyb : (x == y) = false := by simpa using hxy
                have HS1 : Hid (SM (k + 1) = 0) := by unfold Hid; rw [HSX.out, if_neg hxy]
                go_wp2_with (go_at_call 20; refine (HAC.out _ HGW.out).mono ?_; rintro e w4 ⟨rfl, hg4⟩; have hcw := grown_cell hg4.out hcell2 (by simp))
                exact ⟨⟨k + 1, by omega, rfl, by rw [HW1.out], by rw [HP1.out], by rw [HS1.out], HTK1.out, grown_trans HG.out hg4.out⟩, by simp only [intOf]; omega⟩
    · have hX : VE = 8 := by rw [← HVE.out]; unfold chkE; rw [HR.out, if_pos h0, HN.out, HM.out, if_pos hmn]
      obtain ⟨ha, hb⟩ := ZA.out (by omega)
      subst hX
      subst ha
      subst hb
      subst h0
      have hmn' : ((m : Int) != (n : Int)) = true := by simp; omega
      clear hR
      obtain ⟨low, high, above, leap, classes⟩ := r
      simp only at W1 ⊢
      go_enter Try.func12, Try.ntmps12
      go_wp2_with (go_at_call 10; refine (W1.out _ (HG0 _).out).mono ?_; rintro e w1 ⟨rfl, hg1⟩)
      go_ret3
      exact ⟨rfl, grown_trans (HG0 _).out hg1.out⟩
  · have hX : VE = R := by rw [← HVE.out]; unfold chkE; rw [HR.out, if_neg h0]
    obtain ⟨ha, hb⟩ := ZA.out (by omega)
    subst hX
    subst ha
    subst hb
    have h0' : (VE != 0) = true := by simpa using h0
    clear hR
    obtain ⟨low, high, above, leap, classes⟩ := r
    simp only at W1 ⊢
    go_enter Try.func12, Try.ntmps12
    go_wp2_with (go_at_call 10; refine (W1.out _ (HG0 _).out).mono ?_; rintro e w1 ⟨rfl, hg1⟩)
    go_ret3
    exact ⟨rfl, grown_trans (HG0 _).out hg1.out⟩
end Go.Proofs.Ythdohdllpaijhaa.RCheck
