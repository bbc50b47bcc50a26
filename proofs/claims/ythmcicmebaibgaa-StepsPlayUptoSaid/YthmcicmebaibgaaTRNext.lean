/- Next, the reference's: the walk. -/
import Derived.Test.YthmcicmebaibgaaTWalk
import Derived.Test.YthmcicmebaibgaaTNext
namespace Go.Proofs.Ythmcicmebaibgaa.TRNext
open Go Go.RowKit Go.Proofs.Ythmcicmebaibgaa.WMod Go.Proofs.Ythmcicmebaibgaa.TMod Go.Proofs.Ythmcicmebaibgaa.TRead Go.Proofs.Ythmcicmebaibgaa.TSz Go.Proofs.Ythmcicmebaibgaa.TEv Go.Proofs.Ythmcicmebaibgaa.TPl Go.Proofs.Ythmcicmebaibgaa.TWin Go.Proofs.Ythmcicmebaibgaa.TOut Go.Proofs.Ythmcicmebaibgaa.TWalk Go.Proofs.Ythmcicmebaibgaa.TNext Go.Proofs.Ythmcicmebaibgaa.Opn Go.Proofs.Ythmcicmebaibgaa.Hp Go.Proofs.Ythmcicmebaibgaa.Rd Go.Proofs.Ythmcicmebaibgaa.TWWrong Go.Proofs.Ythmcicmebaibgaa.TSame
set_option linter.unusedVariables false
set_option linter.unusedSimpArgs false

set_option maxHeartbeats 4000000 in
set_option maxRecDepth 100000 in
theorem rNext_calls (v : Value) (f : For) (at_ ticks : Int) (w : World) (hsec : Secs w v f) (hfine : Fine f) (hd : dur f ≤ 1125899906842624) (hsize : f.size ≤ 256) (ha0 : 0 ≤ at_) (ha1 : at_ ≤ 1125899906842624) :
    Calls Try.prog 10 #[v, .int .i64 at_, .int .i64 ticks] w fun e w' => ∃ o, e = .returned (.tuple #[o, .int .i64 (nextR f at_ ticks).2.1, .int .i64 (nextR f at_ ticks).2.2]) ∧ Hid (Evs w' o (nextR f at_ ticks).1) ∧ Hid (w.grownBy w' none) := by
  have eat : IntKind.i64.wrap (1125899906842624 - at_) = 1125899906842624 - at_ := IntWalk.i64_in _ (by omega)
  have HWC := Lib.hid (fun (till : Int) (ht : till ≤ 1125899906842624) => walk_calls at_ till ha0 ha1 ht (f.size + 1) f (by omega) v w w 0 (.slice none 0 0) [] hfine hsize hsec (by omega) (by rw [Int.zero_add]; exact hd) (OutS.new w))
  clear hsec hfine hd hsize
  by_cases c : ticks < 0 ∨ 1125899906842624 - at_ < ticks
  · have HRES : Hid (nextR f at_ ticks = ([], at_, 3)) := by unfold Hid nextR; rw [if_pos c]
    rcases c with c | c
    · go_enter Try.func10, Try.ntmps10
      go_wp2_with fail
      go_ret3
      exact ⟨_, by rw [HRES.out]; rfl, by rw [HRES.out]; exact .inr ⟨none, 0, rfl, rfl⟩, grown_refl _ _⟩
    · by_cases c0 : ticks < 0
      · omega
      have c' : (0 : Int) ≤ ticks := by omega
      clear c0
      go_enter Try.func10, Try.ntmps10
      go_wp2_with fail
      go_ret3
      exact ⟨_, by rw [HRES.out]; rfl, by rw [HRES.out]; exact .inr ⟨none, 0, rfl, rfl⟩, grown_refl _ _⟩
  · have HRES : Hid (nextR f at_ ticks = if 4096 < (win at_ (at_ + ticks) (playF f 0)).length then ([], at_, 5) else (win at_ (at_ + ticks) (playF f 0), at_ + ticks, 0)) := by unfold Hid nextR; rw [if_neg c]
    have c1 : (0 : Int) ≤ ticks := by omega
    have c2 : ticks ≤ 1125899906842624 - at_ := by omega
    clear c
    have ett : IntKind.i64.wrap (at_ + ticks) = at_ + ticks := IntWalk.i64_in _ (by omega)
    have WC := Lib.hid (HWC.out (at_ + ticks) (by omega))
    go_enter Try.func10, Try.ntmps10
    go_upto_region 4 with (go_at_call 19; refine (WC.out).mono ?_; rintro e1 w1 hw1; obtain ⟨o', a', rfl, hO2, _, _, _, hG2⟩ := hw1.out; have HO2 := Lib.hid hO2; have HG2 := Lib.hid hG2; clear hw1 hO2 hG2)
    obtain ⟨w2, rfl⟩ : ∃ w2 : World, w2 = w1 := ⟨_, rfl⟩
    rw [List.nil_append] at HO2
    obtain ⟨X, hX⟩ : ∃ X, win at_ (at_ + ticks) (playF f 0) = X := ⟨_, rfl⟩
    have HMX : Hid (∀ e ∈ X, e.at_ ≤ 9223372036854775807) := by unfold Hid; rw [← hX]; exact win_max (by omega)
    rw [hX] at HRES HO2
    clear hX
    obtain ⟨ao, c, rfl⟩ := HO2.out.open
    have HGG : Hid (w.grownBy w2 none) := HO2.out.gr
    by_cases hf : 4096 < X.length
    · have HRES2 : Hid (nextR f at_ ticks = ([], at_, 5)) := by unfold Hid; rw [HRES.out, if_pos hf]
      obtain ⟨zn, hzn⟩ : ∃ zn, (X.take 4097).length = zn := ⟨_, rfl⟩
      have hz : (4096 : Int) < (zn : Int) := by rw [← hzn, List.length_take]; omega
      rw [hzn]
      clear hzn hf
      go_wp2_with fail
      go_ret3
      exact ⟨_, by rw [HRES2.out]; rfl, by rw [HRES2.out]; exact .inr ⟨none, 0, rfl, rfl⟩, HGG.out⟩
    · have HRES2 : Hid (nextR f at_ ticks = (X, at_ + ticks, 0)) := by unfold Hid; rw [HRES.out, if_neg hf]
      have htk : X.take 4097 = X := List.take_of_length_le (by omega)
      have HEV : Hid (Evs w2 (.slice ao X.length c) X) := by
        have h := HO2.out.ow
        rw [htk] at h
        exact (evsA_of_own h HMX.out (fun _ => True) (fun _ _ => trivial)).evs
      rw [htk]
      obtain ⟨zn, hzn⟩ : ∃ zn, X.length = zn := ⟨_, rfl⟩
      have hz : (zn : Int) ≤ 4096 := by omega
      rw [hzn] at HEV ⊢
      clear hzn hf htk
      go_wp2_with fail
      go_ret3
      exact ⟨_, by rw [HRES2.out]; rfl, by rw [HRES2.out]; exact HEV.out, HGG.out⟩
end Go.Proofs.Ythmcicmebaibgaa.TRNext
