/- Next: the walk. -/
import Derived.Test.YthmcicmebaibgaaTPlr
import Derived.Deep.RegionLaw
namespace Go.Proofs.Ythmcicmebaibgaa.TNext
open Go Go.RowKit Go.Proofs.Ythmcicmebaibgaa.WMod Go.Proofs.Ythmcicmebaibgaa.TMod Go.Proofs.Ythmcicmebaibgaa.TRead Go.Proofs.Ythmcicmebaibgaa.TSz Go.Proofs.Ythmcicmebaibgaa.TEv Go.Proofs.Ythmcicmebaibgaa.TPl Go.Proofs.Ythmcicmebaibgaa.TWin Go.Proofs.Ythmcicmebaibgaa.TPTimes Go.Proofs.Ythmcicmebaibgaa.TPlay Go.Proofs.Ythmcicmebaibgaa.TMeas Go.Proofs.Ythmcicmebaibgaa.TPlr Go.Proofs.Ythmcicmebaibgaa.Opn Go.Proofs.Ythmcicmebaibgaa.Hp Go.Proofs.Ythmcicmebaibgaa.Rd Go.Proofs.Ythmcicmebaibgaa.TWWrong Go.Proofs.Ythmcicmebaibgaa.TSame
set_option linter.unusedVariables false
set_option linter.unusedSimpArgs false

/-- What happens in the next ticks, where the player is then, what is wrong. -/
def nextR (f : For) (at_ ticks : Int) : List Ev × Int × Int :=
  if ticks < 0 ∨ 1125899906842624 - at_ < ticks then ([], at_, 3)
  else if 4096 < (win at_ (at_ + ticks) (playF f 0)).length then ([], at_, 5)
  else (win at_ (at_ + ticks) (playF f 0), at_ + ticks, 0)

def NextR (pb : Nat) (u : Value) (f : For) (DF at_ ticks : Int) (w : World) (e : Ending) (w' : World) : Prop :=
  ∃ v, e = .returned (.tuple #[v, .int .i64 (nextR f at_ ticks).2.2]) ∧ EvsA w' (fun q => w.heap.size ≤ q ∧ q < w'.heap.size) v (nextR f at_ ticks).1 ∧ w.grownBy w' (some pb) ∧
    w'.heap[pb]? = some (.cells #[u, .int .i64 DF, .int .i64 (nextR f at_ ticks).2.1] 64 (0, 0))

theorem win_max {es : List Ev} {fr till : Int} (h : till ≤ 1125899906842624) : ∀ e ∈ win fr till es, e.at_ ≤ 9223372036854775807 := by
  intro e he
  unfold win at he
  have := (List.mem_filter.1 he).2
  unfold inW at this
  simp at this
  omega

set_option maxHeartbeats 6000000 in
set_option maxRecDepth 100000 in
theorem Next_calls (pb : Nat) (ax : Option Addr) (cx : Nat) (f : For) (DF at_ ticks : Int) (A : Nat → Prop) (w : World) (hr : w.heap[pb]? = some (.cells #[.slice ax f.len cx, .int .i64 DF, .int .i64 at_] 64 (0, 0))) (hs : SzV w A (.slice ax f.len cx) f)
    (hfine : Fine f) (hd : dur f ≤ 1125899906842624) (hsize : f.size ≤ 256) (ha0 : 0 ≤ at_) (ha1 : at_ ≤ 1125899906842624) :
    Calls Try.prog 17 #[.pointer (some ⟨pb, 0, none⟩), .int .i64 ticks] w fun e w' => Hid (NextR pb (.slice ax f.len cx) f DF at_ ticks w e w') := by
  have HR := Lib.hid hr
  have HS := Lib.hid hs
  have p0 := cell_of HR.out 0
  have p2 := cell_of HR.out 2
  have pf := free_of HR.out 2
  have HPL := Lib.hid (fun (w0 : World) (wb : Nat) (till : Int) (ht : till ≤ 1125899906842624) (h : SzV w0 A (.slice ax f.len cx) f) => play_calls w0 wb at_ till ha0 ha1 ht A (f.size + 1) f (by omega) (.slice ax f.len cx) hfine hsize h)
  have HD := Lib.hid hd
  have eat : IntKind.i64.wrap (1125899906842624 - at_) = 1125899906842624 - at_ := IntWalk.i64_in _ (by omega)
  clear hr hs hfine hd hsize
  obtain ⟨n, hn⟩ : ∃ n, f.len = n := ⟨_, rfl⟩
  rw [hn] at HR HS p0 HPL ⊢
  clear hn
  by_cases c : ticks < 0 ∨ 1125899906842624 - at_ < ticks
  · have HRES : Hid (nextR f at_ ticks = ([], at_, 3)) := by unfold Hid nextR; rw [if_pos c]
    rcases c with c | c
    · go_enter Try.func17, Try.ntmps17
      go_wp2_with fail
      go_ret2
      exact ⟨_, by rw [HRES.out]; rfl, by rw [HRES.out]; exact .inr ⟨none, 0, rfl, rfl⟩, grown_refl _ _, by rw [HRES.out]; exact HR.out⟩
    · by_cases c0 : ticks < 0
      · omega
      have c' : (0 : Int) ≤ ticks := by omega
      clear c0
      go_enter Try.func17, Try.ntmps17
      go_wp2_with fail
      go_ret2
      exact ⟨_, by rw [HRES.out]; rfl, by rw [HRES.out]; exact .inr ⟨none, 0, rfl, rfl⟩, grown_refl _ _, by rw [HRES.out]; exact HR.out⟩
  · have HRES : Hid (nextR f at_ ticks = if 4096 < (win at_ (at_ + ticks) (playF f 0)).length then ([], at_, 5) else (win at_ (at_ + ticks) (playF f 0), at_ + ticks, 0)) := by unfold Hid nextR; rw [if_neg c]
    have c1 : (0 : Int) ≤ ticks := by omega
    have c2 : ticks ≤ 1125899906842624 - at_ := by omega
    clear c
    have ett : IntKind.i64.wrap (at_ + ticks) = at_ + ticks := IntWalk.i64_in _ (by omega)
    go_enter Try.func17, Try.ntmps17
    go_upto_region 3 with fail
    go_region_law (fail)
    all_goals
      go_upto_region 4 with fail
      obtain ⟨wb, hwb⟩ : ∃ wb, w.heap.size = wb := ⟨_, rfl⟩
      have HWB := Lib.hid hwb
      clear hwb
      simp only [HWB.out]
      obtain ⟨wB, hwB⟩ : ∃ wB, (w.alloc (.cells #[.int .i64 at_, .int .i64 (at_ + ticks), .slice none 0 0, .bool false] 69)).drew = wB := ⟨_, rfl⟩
      have HGB : Hid (w.grownBy wB none) := by unfold Hid; rw [← hwB]; exact grown_drew (grown_alloc (grown_refl _ _) _)
      have HWS : Hid (WinS w wB wb at_ (at_ + ticks) []) := by
        unfold Hid
        rw [← hwB, ← HWB.out]
        exact (WinS.new w at_ (at_ + ticks)).kept (grown_drew (grown_refl _ _))
      simp only [hwB]
      clear hwB
      have HRB : Hid (wB.heap[pb]? = some (.cells #[.slice ax n cx, .int .i64 DF, .int .i64 at_] 64 (0, 0))) := row_kept HGB.out HR.out (by simp)
      clear p0 p2 pf
      have p0 := cell_of HRB.out 0
      have PC := Lib.hid (HPL.out w wb (at_ + ticks) (by omega) HS.out 0 wB [] (by omega) (by rw [Int.zero_add]; exact HD.out) HWS.out)
      go_upto_region 5 with (go_at_call 23; refine (PC.out).mono ?_; rintro e1 w1 ⟨rfl, hw1, hg1⟩)
      obtain ⟨w2, rfl⟩ : ∃ w2 : World, w2 = w1 := ⟨_, rfl⟩
      clear p0
      rw [List.nil_append] at hw1
      obtain ⟨X, hX⟩ : ∃ X, win at_ (at_ + ticks) (playF f 0) = X := ⟨_, rfl⟩
      have HMX : Hid (∀ e ∈ X, e.at_ ≤ 9223372036854775807) := by unfold Hid; rw [← hX]; exact win_max (by omega)
      rw [hX] at HRES hw1
      clear hX
      have HG2 : Hid (w.grownBy w2 none) := hw1.out.gr
      have HR2 : Hid (w2.heap[pb]? = some (.cells #[.slice ax n cx, .int .i64 DF, .int .i64 at_] 64 (0, 0))) := row_kept HG2.out HR.out (by simp)
      obtain ⟨ao, c, hr2, hn2, ho2⟩ := hw1.out.ex
      have HOW := Lib.hid ho2
      have HWR : Hid (w2.heap[wb]? = some (.cells #[.int .i64 at_, .int .i64 (at_ + ticks), .slice ao (X.take 4096).length c, .bool (decide (4096 < X.length))] 69 (0, 0))) := hr2
      clear hr2 hn2 ho2
      have q2 := cell_of HWR.out 2
      have q3 := cell_of HWR.out 3
      have p2 := cell_of HR2.out 2
      have pf := free_of HR2.out 2
      by_cases hf : 4096 < X.length
      · have HRES2 : Hid (nextR f at_ ticks = ([], at_, 5)) := by unfold Hid; rw [HRES.out, if_pos hf]
        have d1 : decide (4096 < X.length) = true := decide_eq_true hf
        rw [d1] at q3
        clear hf d1
        go_wp2_with fail
        go_ret2
        exact ⟨_, by rw [HRES2.out]; rfl, by rw [HRES2.out]; exact .inr ⟨none, 0, rfl, rfl⟩, grown_none HG2.out _, by rw [HRES2.out]; exact HR2.out⟩
      · have HRES2 : Hid (nextR f at_ ticks = (X, at_ + ticks, 0)) := by unfold Hid; rw [HRES.out, if_neg hf]
        have d1 : decide (4096 < X.length) = false := decide_eq_false hf
        rw [d1] at q3
        have HTK : Hid (X.take 4096 = X) := List.take_of_length_le (by omega)
        rw [HTK.out] at q2 HOW
        obtain ⟨xn, hxn⟩ : ∃ xn, X.length = xn := ⟨_, rfl⟩
        have HXN := Lib.hid hxn
        have HRF : Hid ((w2.setCell ⟨pb, 2, none⟩ (.int .i64 (at_ + ticks))).heap[pb]? = some (.cells #[.slice ax n cx, .int .i64 DF, .int .i64 (at_ + ticks)] 64 (0, 0))) := by
          unfold Hid
          rw [set_self HR2.out]
          simp
        have HGS : Hid (w2.grownBy (w2.setCell ⟨pb, 2, none⟩ (.int .i64 (at_ + ticks))) (some pb)) := grown_set (grown_refl _ _) (.inl rfl) _
        have HEA : Hid (EvsA (w2.setCell ⟨pb, 2, none⟩ (.int .i64 (at_ + ticks))) (fun q => w.heap.size ≤ q ∧ q < (w2.setCell ⟨pb, 2, none⟩ (.int .i64 (at_ + ticks))).heap.size) (.slice ao xn c) X) := by
          unfold Hid
          have hlt := lt_of HR.out
          rw [← HXN.out, size_set]
          exact (evsA_of_own HOW.out HMX.out (fun q => w.heap.size ≤ q ∧ q < w2.heap.size) (fun b hb => own_base HOW.out hb)).kept HGS.out (fun b hb hA => by injection hb with hb; omega)
        have HGF : Hid (w.grownBy (w2.setCell ⟨pb, 2, none⟩ (.int .i64 (at_ + ticks))) (some pb)) := grown_trans (grown_none HG2.out _) HGS.out
        rw [hxn] at q2
        have hlt2 : pb < wb := by rw [← HWB.out]; exact lt_of HR.out
        have hne1 : pb ≠ wb := by omega
        have hne2 : wb ≠ pb := by omega
        have q4 : (w2.setCell ⟨pb, 2, none⟩ (.int .i64 (at_ + ticks))).cell? ⟨wb, 2, none⟩ = some (.slice ao xn c) := grown_cell HGS.out q2 (by simp; omega)
        clear hf d1 hxn
        go_wp2_with fail
        go_ret2
        exact ⟨_, by rw [HRES2.out]; rfl, by rw [HRES2.out]; exact HEA.out, HGF.out, by rw [HRES2.out]; exact HRF.out⟩
end Go.Proofs.Ythmcicmebaibgaa.TNext
