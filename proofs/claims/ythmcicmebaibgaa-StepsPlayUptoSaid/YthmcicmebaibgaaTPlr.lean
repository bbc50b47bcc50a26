/- Long, New, Seek, At. -/
import Derived.Test.YthmcicmebaibgaaTPlay
import Derived.Test.YthmcicmebaibgaaTMeas
import Derived.Test.YthmcicmebaibgaaTLong
import Derived.Test.YthmcicmebaibgaaTRLong
namespace Go.Proofs.Ythmcicmebaibgaa.TPlr
open Go Go.RowKit Go.Proofs.Ythmcicmebaibgaa.WMod Go.Proofs.Ythmcicmebaibgaa.TMod Go.Proofs.Ythmcicmebaibgaa.TRead Go.Proofs.Ythmcicmebaibgaa.TSz Go.Proofs.Ythmcicmebaibgaa.TEv Go.Proofs.Ythmcicmebaibgaa.TPl Go.Proofs.Ythmcicmebaibgaa.TWin Go.Proofs.Ythmcicmebaibgaa.TPTimes Go.Proofs.Ythmcicmebaibgaa.TPlay Go.Proofs.Ythmcicmebaibgaa.TMeas Go.Proofs.Ythmcicmebaibgaa.TLong Go.Proofs.Ythmcicmebaibgaa.TRLong Go.Proofs.Ythmcicmebaibgaa.Opn Go.Proofs.Ythmcicmebaibgaa.Hp Go.Proofs.Ythmcicmebaibgaa.Rd Go.Proofs.Ythmcicmebaibgaa.TWWrong Go.Proofs.Ythmcicmebaibgaa.TSame
set_option linter.unusedVariables false
set_option linter.unusedSimpArgs false

set_option maxHeartbeats 2000000 in
set_option maxRecDepth 100000 in
theorem Long_calls (f : For) (v : Value) (w : World) (hsec : Secs w v f) :
    Calls Try.prog 7 #[v] w fun e w' => e = .returned (.tuple #[.int .i64 (longV f), .int .i64 (longE f)]) ∧ Hid (w.grownBy w' none) := by
  have LC := Lib.hid (long_calls (f.size + 1) f (by omega) 1 0 v w.heap.size w (w.alloc (.cells #[.int .i64 0] 3)) (by omega) (by omega) (by omega) hsec (grown_alloc (grown_refl _ _) _) (Nat.le_refl _) (heap_alloc_new _ _))
  clear hsec
  go_enter Try.func7, Try.ntmps7
  go_wp2_with (go_at_call 13; refine (LC.out).mono ?_; rintro e1 w1 ⟨rfl, hg1, _, _⟩)
  go_ret2
  exact ⟨rfl, hg1.out⟩

set_option maxHeartbeats 2000000 in
set_option maxRecDepth 100000 in
theorem rLong_calls (f : For) (v : Value) (w : World) (hsec : Secs w v f) :
    Calls Try.prog 8 #[v] w fun e w' => e = .returned (.tuple #[.int .i64 (longV f), .int .i64 (longE f)]) ∧ Hid (w.grownBy w' none) := by
  have LC := Lib.hid (rlong_calls (f.size + 1) f (by omega) 1 0 v w w (by omega) (by omega) (by omega) hsec (grown_refl _ _))
  clear hsec
  go_enter Try.func8, Try.ntmps8
  go_wp2_with (go_at_call 14; refine (LC.out).mono ?_; rintro e1 w1 ⟨rfl, hg1⟩)
  go_ret2
  exact ⟨rfl, hg1.out⟩

theorem top_eq {f : For} (h : longE f = 0) : top 1 f 0 = lng 1 f 0 0 := by
  unfold top
  rw [if_neg (by omega)]

theorem fine_of {f : For} (h : longE f = 0) : Fine f ∧ longV f = dur f ∧ dur f ≤ 1125899906842624 ∧ 0 ≤ dur f ∧ f.size ≤ 256 := by
  have h2 : (lng 1 f 0 0).2.2 = 0 := by
    have : longE f = (top 1 f 0).2.2 := rfl
    rw [top_eq h] at this
    rw [← this]; exact h
  obtain ⟨g1, g2, g3, g4⟩ := lng_fine 1 f 1 0 0 (by omega) (by unfold total; omega) h2
  refine ⟨g1, ?_, by unfold total at g3; omega, g4, ?_⟩
  · show (top 1 f 0).1 = dur f
    rw [top_eq h, g2]; omega
  · have h3 := lng_seen f 1 0 0 (by omega) (by omega) h2
    rw [lng_size f 1 0 0 h2] at h3
    omega

/-- What New makes: a player, at the beginning. -/
def NewR (f : For) (w : World) (e : Ending) (w' : World) : Prop :=
  (longE f ≠ 0 ∧ e = .returned (.tuple #[.pointer none, .int .i64 (longE f)])) ∨
  (longE f = 0 ∧ ∃ pb u, w.heap.size ≤ pb ∧ pb < w'.heap.size ∧ e = .returned (.tuple #[.pointer (some ⟨pb, 0, none⟩), .int .i64 0]) ∧ w'.heap[pb]? = some (.cells #[u, .int .i64 (dur f), .int .i64 0] 64 (0, 0)) ∧ SzV w' (fun b => b < w'.heap.size ∧ b ≠ pb) u f)

set_option maxHeartbeats 4000000 in
set_option maxRecDepth 100000 in
theorem New_calls (f : For) (v : Value) (w : World) (hsec : Secs w v f) :
    Calls Try.prog 15 #[v] w fun e w' => Hid (NewR f w e w') ∧ Hid (w.grownBy w' none) := by
  have LC := Lib.hid (Long_calls f v w hsec)
  by_cases h0 : longE f = 0
  · obtain ⟨hfine, _, hd1, hd0, hsz⟩ := fine_of h0
    have H0 := Lib.hid h0
    rw [h0] at LC
    have MC := Lib.hid (fun (w' : World) (hg : w.grownBy w' none) => measure_calls (f.size + 1) f (by omega) v w w' hfine hsz hd1 hsec hg)
    clear hsec h0 hfine hd1 hd0 hsz
    obtain ⟨LV, hLV⟩ : ∃ LV, longV f = LV := ⟨_, rfl⟩
    rw [hLV] at LC
    clear hLV
    go_enter Try.func15, Try.ntmps15
    go_upto_region 2 with (go_at_call 7; refine (LC.out).mono ?_; rintro e1 w1 ⟨rfl, hg1⟩)
    obtain ⟨wa, rfl⟩ : ∃ wa : World, wa = w1 := ⟨_, rfl⟩
    obtain ⟨pb, hpb⟩ : ∃ pb, wa.heap.size = pb := ⟨_, rfl⟩
    have HPB := Lib.hid hpb
    have MC2 := Lib.hid (MC.out (wa.alloc (.cells #[.slice none 0 0, .int .i64 0, .int .i64 0] 64)) (grown_alloc hg1.out _))
    clear hpb MC
    obtain ⟨DF, hDF⟩ : ∃ DF, dur f = DF := ⟨_, rfl⟩
    rw [hDF] at MC2
    have HDF := Lib.hid hDF
    clear hDF
    go_upto_region 5 with fail
    simp only [HPB.out]
    obtain ⟨wb, hwb⟩ : ∃ wb, wa.alloc (.cells #[.slice none 0 0, .int .i64 0, .int .i64 0] 64) = wb := ⟨_, rfl⟩
    have HRP : Hid (wb.heap[pb]? = some (.cells #[.slice none 0 0, .int .i64 0, .int .i64 0] 64 (0, 0))) := by unfold Hid; rw [← hwb, ← HPB.out]; exact heap_alloc_new _ _
    have HGB : Hid (w.grownBy wb none) := by unfold Hid; rw [← hwb]; exact grown_alloc hg1.out _
    have HPW : Hid (w.heap.size ≤ pb) := by unfold Hid; rw [← HPB.out]; exact hg1.out.size
    rw [hwb] at MC2
    simp only [hwb]
    clear hwb
    go_upto_region 6 with (go_at_call 22; refine (MC2.out).mono ?_; rintro e2 w2 ⟨u, rfl, hsz2, hg2⟩; have HRP2 : Hid (w2.heap[pb]? = some (.cells #[.slice none 0 0, .int .i64 0, .int .i64 0] 64 (0, 0))) := row_kept hg2.out HRP.out (by simp); obtain ⟨ax, cx, rfl⟩ := szv_open hsz2.out; have q0 := cell_of HRP2.out 0; have q1 := cell_of HRP2.out 1; have f0 := free_of HRP2.out 0; have f1 := free_of HRP2.out 1)
    obtain ⟨wd, hwd⟩ : ∃ wd, (w2.setCell ⟨pb, 0, none⟩ (.slice ax f.len cx)).setCell ⟨pb, 1, none⟩ (.int .i64 DF) = wd := ⟨_, rfl⟩
    have HGD2 : Hid (w2.grownBy wd (some pb)) := by
      unfold Hid
      rw [← hwd]
      exact grown_set (p := ⟨pb, 1, none⟩) (grown_set (p := ⟨pb, 0, none⟩) (grown_refl _ _) (.inl rfl) _) (.inl rfl) _
    have HRD : Hid (wd.heap[pb]? = some (.cells #[.slice ax f.len cx, .int .i64 DF, .int .i64 0] 64 (0, 0))) := by
      unfold Hid
      rw [← hwd, set_self (set_self HRP2.out _)]
      simp
    simp only [hwd]
    clear hwd q0 q1 f0 f1
    have HGD : Hid (w.grownBy wd none) := grown_from (grown_trans HGB.out hg2.out) HGD2.out (.inl HPW.out)
    have HSD : Hid (SzV wd (fun b => b < wd.heap.size ∧ b ≠ pb) (.slice ax f.len cx) f) := by
      have hlt := lt_of HRP.out
      refine (hsz2.out.kept HGD2.out (fun b hb hA => ?_)).mono (fun b hA => ?_)
      · injection hb with hb; omega
      · have := HGD2.out.size; exact ⟨by omega, by omega⟩
    go_wp2_with fail
    go_ret2
    refine ⟨.inr ⟨H0.out, pb, _, HPW.out, lt_of HRD.out, rfl, by rw [HDF.out]; exact HRD.out, HSD.out⟩, HGD.out⟩
  · have H0 := Lib.hid h0
    obtain ⟨LE, hLE⟩ : ∃ LE, longE f = LE := ⟨_, rfl⟩
    obtain ⟨LV, hLV⟩ : ∃ LV, longV f = LV := ⟨_, rfl⟩
    rw [hLE] at h0
    rw [hLE, hLV] at LC
    have HLE := Lib.hid hLE
    have hz : (LE != 0) = true := by simpa using h0
    clear h0 hsec hLE hLV
    go_enter Try.func15, Try.ntmps15
    go_wp2_with (go_at_call 7; refine (LC.out).mono ?_; rintro e1 w1 ⟨rfl, hg1⟩)
    go_ret2
    exact ⟨.inl ⟨H0.out, by rw [HLE.out]; rfl⟩, hg1.out⟩

set_option maxHeartbeats 1000000 in
set_option maxRecDepth 100000 in
theorem Seek_calls (pb : Nat) (u : Value) (DF at_ x : Int) (w : World) (hr : w.heap[pb]? = some (.cells #[u, .int .i64 DF, .int .i64 at_] 64 (0, 0))) :
    Calls Try.prog 16 #[.pointer (some ⟨pb, 0, none⟩), .int .i64 x] w fun e w' => e = .returned (.int .i64 (if x < 0 ∨ 1125899906842624 < x then 3 else 0)) ∧ Hid (w.grownBy w' (some pb)) ∧ Hid (w'.heap[pb]? = some (.cells #[u, .int .i64 DF, .int .i64 (if x < 0 ∨ 1125899906842624 < x then at_ else x)] 64 (0, 0))) := by
  have HR := Lib.hid hr
  clear hr
  by_cases c : x < 0 ∨ 1125899906842624 < x
  · rw [if_pos c, if_pos c]
    rcases c with c | c
    · go_enter Try.func16, Try.ntmps16
      go_wp2_with fail
      go_ret
      exact ⟨rfl, grown_refl _ _, HR.out⟩
    · have c' : (0 : Int) ≤ x := by omega
      go_enter Try.func16, Try.ntmps16
      go_wp2_with fail
      go_ret
      exact ⟨rfl, grown_refl _ _, HR.out⟩
  · rw [if_neg c, if_neg c]
    have c1 : (0 : Int) ≤ x := by omega
    have c2 : x ≤ 1125899906842624 := by omega
    have c3 := cell_of HR.out 2
    have c4 := free_of HR.out 2
    have HW : Hid (w.grownBy (w.setCell ⟨pb, 2, none⟩ (.int .i64 x)) (some pb)) := grown_set (grown_refl _ _) (.inl rfl) _
    have HR2 : Hid ((w.setCell ⟨pb, 2, none⟩ (.int .i64 x)).heap[pb]? = some (.cells #[u, .int .i64 DF, .int .i64 x] 64 (0, 0))) := by
      unfold Hid
      rw [set_self HR.out]
      simp
    clear c
    go_enter Try.func16, Try.ntmps16
    go_wp2_with fail
    go_ret
    exact ⟨rfl, HW.out, HR2.out⟩

set_option maxHeartbeats 1000000 in
set_option maxRecDepth 100000 in
theorem At_calls (pb : Nat) (u : Value) (DF at_ : Int) (w : World) (hr : w.heap[pb]? = some (.cells #[u, .int .i64 DF, .int .i64 at_] 64 (0, 0))) :
    Calls Try.prog 18 #[.pointer (some ⟨pb, 0, none⟩)] w fun e w' => e = .returned (.int .i64 at_) ∧ w = w' := by
  have c3 := cell_of hr 2
  clear hr
  go_enter Try.func18, Try.ntmps18
  go_wp2_with fail
  go_ret
  exact ⟨rfl, rfl⟩
end Go.Proofs.Ythmcicmebaibgaa.TPlr
