/- Walk, the reference's: the walk. -/
import Derived.Test.YthmcicmebaibgaaTOut
import Derived.Test.YthmcicmebaibgaaTSame
import Derived.Test.YthmcicmebaibgaaTApp
namespace Go.Proofs.Ythmcicmebaibgaa.TWalk
open Go Go.RowKit Go.Proofs.Ythmcicmebaibgaa.WMod Go.Proofs.Ythmcicmebaibgaa.TMod Go.Proofs.Ythmcicmebaibgaa.TRead Go.Proofs.Ythmcicmebaibgaa.TSz Go.Proofs.Ythmcicmebaibgaa.TEv Go.Proofs.Ythmcicmebaibgaa.TPl Go.Proofs.Ythmcicmebaibgaa.TApp Go.Proofs.Ythmcicmebaibgaa.TWin Go.Proofs.Ythmcicmebaibgaa.TOut Go.Proofs.Ythmcicmebaibgaa.Opn Go.Proofs.Ythmcicmebaibgaa.Hp Go.Proofs.Ythmcicmebaibgaa.Rd Go.Proofs.Ythmcicmebaibgaa.TWWrong Go.Proofs.Ythmcicmebaibgaa.TSame
set_option linter.unusedVariables false
set_option linter.unusedSimpArgs false

def WalkR (w0 w : World) (fr till a : Int) (f : For) (X : List Ev) (e : Ending) (w' : World) : Prop :=
  ∃ o' a', e = .returned (.tuple #[o', .int .i64 a']) ∧ OutS w0 w' o' (X ++ win fr till (playF f a)) ∧ a ≤ a' ∧ a' ≤ a + dur f ∧ (a' = a + dur f ∨ till ≤ a' ∨ 4096 < (X ++ win fr till (playF f a)).length) ∧ Gr w0.heap.size [60] w w'

set_option maxHeartbeats 8000000 in
set_option maxRecDepth 100000 in
theorem walk_calls (fr till : Int) (hf0 : 0 ≤ fr) (hf1 : fr ≤ 1125899906842624) (hti : till ≤ 1125899906842624) : ∀ (N : Nat) (f : For), f.size < N → ∀ (v : Value) (w0 w : World) (a : Int) (o : Value) (X : List Ev), Fine f → f.size ≤ 256 → Secs w0 v f → 0 ≤ a → a + dur f ≤ 1125899906842624 → OutS w0 w o X →
    Calls Try.prog 19 #[v, .int .i64 a, .int .i64 fr, .int .i64 till, o] w fun e w' => Hid (WalkR w0 w fr till a f X e w') := by
  intro N
  induction N with
  | zero => intro f h; omega
  | succ N IH =>
    intro f hN v w0 w a o X hfine hsize hsec ha0 ha1 hO
    obtain ⟨i0, hi, hz0, hz1, hz2⟩ := info_parts info60
    obtain ⟨ao, c, rfl⟩ := secs_open hsec
    obtain ⟨oo, oc, rfl⟩ := hO.open
    have HSEC := Lib.hid hsec
    have HFINE := Lib.hid hfine
    have IH' := Lib.hid (fun (k : For) (hk : k.size < f.size) => IH k (by omega))
    have HSIZE := Lib.hid hsize
    have HO0 := Lib.hid hO
    have hl256 : f.len ≤ 256 := Nat.le_trans (len_size f) hsize
    obtain ⟨n, hn⟩ : ∃ n, f.len = n := ⟨_, rfl⟩
    have HN := Lib.hid hn
    obtain ⟨DF, hDF⟩ : ∃ DF, dur f = DF := ⟨_, rfl⟩
    have HDF := Lib.hid hDF
    obtain ⟨xn, hxn⟩ : ∃ xn, (X.take 4097).length = xn := ⟨_, rfl⟩
    rw [hxn] at HO0
    rw [hn] at hl256
    rw [hn, hxn]
    rw [hDF] at ha1
    clear hsec hn hfine hsize hDF IH hO hxn
    go_enter Try.func19, Try.ntmps19
    go_wp2_with fail
    go_loopw [1, 4, 20] (fun v1 v4 v20 wr => ∃ (i : Nat) (b B : Int) (Z : List Ev), i ≤ n ∧ v20 = .int .i64 (i : Int) ∧ v1 = .int .i64 b ∧ a ≤ b ∧ b ≤ B ∧ Hid (b = B ∨ till ≤ b ∨ 4096 < Z.length) ∧ Hid (B + dur (f.drop i) = a + DF) ∧ Hid (Z ++ win fr till (playF (f.drop i) B) = X ++ win fr till (playF f a)) ∧ Hid (OutS w0 wr v4 Z) ∧ Hid (Gr w0.heap.size [60] w wr)) (fun _ _ v20 _ => n - (intOf v20).toNat)
    case atStart => exact ⟨0, a, a, X, Nat.zero_le _, rfl, rfl, by omega, by omega, .inl rfl, by unfold Hid; rw [← HDF.out]; rfl, rfl, HO0.out, Gr.refl _ _ _⟩
    case round =>
      clear HO0
      obtain ⟨i, b, B, Z, hi1, rfl, rfl, hab, hbB, HST, HB, HRES, HOZ, HGR⟩ := hrel
      obtain ⟨oo, oc, rfl⟩ := HOZ.out.open
      by_cases hie : i = n
      · have HF : Hid (Z = X ++ win fr till (playF f a) ∧ B = a + dur f) := by
          have h := HRES.out
          have h2 := HB.out
          unfold Hid at h h2 ⊢
          rw [hie, ← HN.out, For.drop_end] at h h2
          rw [← h, HDF.out]
          simp only [dur] at h2
          exact ⟨(List.append_nil _).symm, by omega⟩
        subst hie
        go_wp2_with fail
        go_ret2
        refine ⟨_, b, rfl, ?_, hab, ?_, ?_, HGR.out⟩
        · rw [← HF.out.1]; exact HOZ.out
        · rw [← HF.out.2]; exact hbB
        · rw [← HF.out.1, ← HF.out.2]; exact HST.out
      have hin : i < n := by omega
      have hin2 : (i : Int) < (n : Int) := by omega
      obtain ⟨t, l, evs, k, r, hd⟩ := For.drop_cons (f := f) (n := i) (by rw [HN.out]; exact hin)
      obtain ⟨sbk, so, ve, vk, rfl, h0, h1, h2, h3, hev, hks⟩ := secs_at HSEC.out hd
      have hgr := HOZ.out.gr
      have hfd := fine_drop i f HFINE.out
      rw [hd] at hfd
      obtain ⟨⟨ht0, ht1⟩, ⟨hl0, hl1⟩, hwr, hlate, hfk, hfr, ⟨dk0, dk1⟩, dr0⟩ := hfd
      have hb := HB.out
      unfold Hid at hb
      rw [hd] at hb
      simp only [dur] at hb
      have HK := Lib.hid (For.size_kids hd)
      have hm0 : 0 ≤ t * (l + dur k) := Int.mul_nonneg ht0 (by omega)
      have HSTEP : Hid ((Z ++ win fr till (secF t l evs k B)) ++ win fr till (playF (f.drop (i + 1)) (B + t * (l + dur k))) = X ++ win fr till (playF f a)) := by
        have h := HRES.out
        unfold Hid at h ⊢
        rw [hd, cons_step] at h
        rw [For.drop_succ i f hd]
        exact h
      have HB2 : Hid (B + t * (l + dur k) + dur (f.drop (i + 1)) = a + DF) := by
        unfold Hid
        rw [For.drop_succ i f hd]
        omega
      have HTILL := Lib.hid (fun n a' h => rep_till (fr := fr) (till := till) hwr hlate hl0 hfk (a := a') n h)
      have HONE : Hid (∀ X b, X ++ win fr till (oneF l evs k b) = (X ++ win fr till (evs.map (shift b))) ++ win fr till (playF k (b + l))) := fun X b => one_step fr till X
      have hne5 : evs.length ≤ 4096 := by
        unfold wrong at hwr
        split at hwr
        · cases hwr
        · omega
      have HBD : Hid (∀ e ∈ evs, 0 ≤ e.at_ ∧ e.at_ ≤ 65536) := by
        intro e he
        have h1 := (shift_within hwr hlate 0).2 (shift 0 e) (List.mem_map_of_mem he)
        simp only [shift] at h1
        omega
      have HIH := Lib.hid (fun (w' : World) (a' : Int) (o' : Value) (X' : List Ev) (q0 : 0 ≤ a') (q1 : a' + dur k ≤ 1125899906842624) (q2 : OutS w0 w' o' X') => IH'.out k HK.out vk w0 w' a' o' X' hfk (by have := HK.out; have := HSIZE.out; unfold Hid at *; omega) hks q0 q1 q2)
      have c0 := grown_cell hgr h0 (by simp)
      have c1 := grown_cell hgr h1 (by simp)
      have c2 := grown_cell hgr h2 (by simp)
      have c3 := grown_cell hgr h3 (by simp)
      obtain ⟨ae, ce, rfl⟩ := evs_len hev
      have HEV := Lib.hid hev
      obtain ⟨ne, hne⟩ : ∃ ne, evs.length = ne := ⟨_, rfl⟩
      obtain ⟨ak, ck, rfl⟩ := secs_open hks
      obtain ⟨nk, hnk⟩ : ∃ nk, k.len = nk := ⟨_, rfl⟩
      have HNE := Lib.hid hne
      rw [hne] at c2 hne5
      rw [hnk] at c3 HIH
      obtain ⟨K, hK⟩ : ∃ K, dur k = K := ⟨_, rfl⟩
      have HKK := Lib.hid hK
      obtain ⟨O, hO⟩ : ∃ O, l + dur k = O := ⟨_, rfl⟩
      rw [hO] at HSTEP HB2 hm0 hb HTILL
      obtain ⟨Y, hY⟩ : ∃ Y, t * O = Y := ⟨_, rfl⟩
      rw [hY] at HSTEP HB2 hm0 hb
      have HY := Lib.hid hY
      have HSF : Hid (secF t l evs k B = repF (oneF l evs k) O t.toNat B) := by unfold Hid secF; rw [hO]
      rw [hK] at hO
      have hO0 : 0 ≤ O := by omega
      have hlO : l + K = O := hO
      have HLO := Lib.hid hlO
      have hBY : B + Y ≤ 1125899906842624 := by omega
      obtain ⟨ZS, hZS⟩ : ∃ ZS, Z ++ win fr till (secF t l evs k B) = ZS := ⟨_, rfl⟩
      rw [hZS] at HSTEP
      have HZS := Lib.hid hZS
      obtain ⟨T, hT⟩ : ∃ T : Nat, t = (T : Int) := ⟨t.toNat, (Int.toNat_of_nonneg ht0).symm⟩
      have HTT := Lib.hid hT
      clear hd h0 h1 h2 h3 hev hks hgr hfk hfr hwr hlate hne hnk hO hY hK dk1 dr0 hb HB HRES hZS hT hlO
      have hKO : K ≤ O := by have := HLO.out; unfold Hid at this; omega
      have hlO2 : l ≤ O := by have := HLO.out; unfold Hid at this; have := HKK.out; unfold Hid at this; omega
      obtain ⟨sb, hsb⟩ : ∃ sb, wr.heap.size = sb := ⟨_, rfl⟩
      have HSB := Lib.hid hsb
      clear hsb
      obtain ⟨zn, hzn⟩ : ∃ zn, (Z.take 4097).length = zn := ⟨_, rfl⟩
      rw [hzn] at HOZ
      simp only [hzn]
      clear hzn
      go_upto_region 4 with fail
      simp only [HSB.out]
      obtain ⟨wx, hwx⟩ : ∃ wx, wr.alloc (.cells #[.int .i64 t, .int .i64 l, .slice ae ne ce, .slice ak nk ck] 44) = wx := ⟨_, rfl⟩
      have HGRX : Hid (wr.grownBy wx none) := by unfold Hid; rw [← hwx]; exact grown_alloc (grown_refl _ _) _
      have HRX : Hid (wx.heap[sb]? = some (.cells #[.int .i64 t, .int .i64 l, .slice ae ne ce, .slice ak nk ck] 44 (0, 0))) := by unfold Hid; rw [← hwx, ← HSB.out]; exact heap_alloc_new _ _
      simp only [hwx]
      clear hwx c0 c1 c2 c3
      have HOX : Hid (OutS w0 wx (.slice oo zn oc) Z) := HOZ.out.kept HGRX.out
      have HGX : Hid (Gr w0.heap.size [60] w wx) := HGR.out.trans (Gr.of_none HGRX.out)
      clear HOZ HGR HGRX
      go_wp2_with fail
      trace "mid"
      go_loopw [1, 4, 14] (fun v1 v4 v14 wm => ∃ (m : Nat) (b B' : Int) (Z' : List Ev), m ≤ T ∧ v14 = .int .i64 (m : Int) ∧ v1 = .int .i64 b ∧ a ≤ b ∧ b ≤ B' ∧ B' ≤ B + Y ∧ Hid (b = B' ∨ till ≤ b ∨ 4096 < Z'.length) ∧ Hid (B' + ((T - m : Nat) : Int) * O = B + Y) ∧ Hid (Z' ++ win fr till (repF (oneF l evs k) O (T - m) B') = ZS) ∧ Hid (OutS w0 wm v4 Z') ∧ Hid (Gr w0.heap.size [60] wx wm)) (fun _ _ v14 _ => T - (intOf v14).toNat)
      case atStart =>
        refine ⟨0, b, B, Z, Nat.zero_le _, rfl, rfl, hab, hbB, by omega, HST.out, ?_, ?_, HOX.out, Gr.refl _ _ _⟩
        · unfold Hid
          have h1 := HTT.out
          have h2 := HY.out
          unfold Hid at h1 h2
          rw [Nat.sub_zero, ← h1, h2]
        · unfold Hid
          have h1 := HTT.out
          unfold Hid at h1
          rw [← HZS.out, HSF.out, h1, Nat.sub_zero]
          rfl
      case round =>
        clear HST HOX hbB hab
        obtain ⟨m, b, B', Z', hmT, rfl, rfl, hab, hbB, hBB, HST, HBT, HRES, HOZ, HGM⟩ := hrel
        obtain ⟨oo, oc, rfl⟩ := HOZ.out.open
        have HRM : Hid (wr.heap[sb]? = some (.cells #[.int .i64 t, .int .i64 l, .slice ae ne ce, .slice ak nk ck] 44 (0, 0))) := HGM.out.keep HRX.out (by simp)
        have HGF : Hid (Gr w0.heap.size [60] w wr) := HGX.out.trans HGM.out
        obtain ⟨zn, hzn⟩ : ∃ zn, (Z'.take 4097).length = zn := ⟨_, rfl⟩
        have HZN : Hid (zn = min 4097 Z'.length) := by unfold Hid; rw [← hzn, List.length_take]
        rw [hzn] at HOZ
        simp only [hzn]
        clear hzn
        have p0 := cell_of HRM.out 0
        have p1 := cell_of HRM.out 1
        have p2 := cell_of HRM.out 2
        have p3 := cell_of HRM.out 3
        by_cases c1 : m = T
        · have HZE : Hid (Z' = ZS) := by
            have h := HRES.out
            unfold Hid at h ⊢
            rw [c1, Nat.sub_self] at h
            rw [← h]
            exact (List.append_nil _).symm
          have hBE : B' = B + Y := by
            have h := HBT.out
            unfold Hid at h
            rw [c1, Nat.sub_self] at h
            simp at h
            omega
          have HOE : Hid (OutS w0 wr (.slice oo zn oc) ZS) := by unfold Hid; rw [← HZE.out]; exact HOZ.out
          have HSE : Hid (b = B + Y ∨ till ≤ b ∨ 4096 < ZS.length) := by unfold Hid; rw [← HZE.out, ← hBE]; exact HST.out
          have hle : t ≤ (m : Int) := by have := HTT.out; unfold Hid at this; omega
          clear c1
          go_wp2_with fail
          refine ⟨?_, by simp [intOf]; omega⟩
          first
            | exact ⟨i + 1, b, B + Y, ZS, by omega, rfl, rfl, by omega, by omega, HSE.out, HB2.out, HSTEP.out, HOE.out, HGF.out⟩
            | (repeat apply Exists.intro
               refine ⟨?_, rfl⟩
               exact ⟨i + 1, b, B + Y, ZS, by omega, rfl, rfl, by omega, by omega, HSE.out, HB2.out, HSTEP.out, HOE.out, HGF.out⟩)
        have c1' : (m : Int) < t := by have := HTT.out; unfold Hid at this; omega
        by_cases c2 : till ≤ b
        · have HOE : Hid (OutS w0 wr (.slice oo zn oc) ZS) := by
            unfold Hid
            rw [← HRES.out]
            exact stop_rest HOZ.out (.inl (show till ≤ B' by omega)) (fun h => HTILL.out _ _ h)
          have HSE : Hid (b = B + Y ∨ till ≤ b ∨ 4096 < ZS.length) := .inr (.inl c2)
          go_wp2_with fail
          refine ⟨?_, by simp [intOf]; omega⟩
          first
            | exact ⟨i + 1, b, B + Y, ZS, by omega, rfl, rfl, by omega, by omega, HSE.out, HB2.out, HSTEP.out, HOE.out, HGF.out⟩
            | (repeat apply Exists.intro
               refine ⟨?_, rfl⟩
               exact ⟨i + 1, b, B + Y, ZS, by omega, rfl, rfl, by omega, by omega, HSE.out, HB2.out, HSTEP.out, HOE.out, HGF.out⟩)
        have c2' : b < till := by omega
        by_cases c3 : 4096 < Z'.length
        · have HOE : Hid (OutS w0 wr (.slice oo zn oc) ZS) := by
            unfold Hid
            rw [← HRES.out]
            exact HOZ.out.full c3 _
          have HSE : Hid (b = B + Y ∨ till ≤ b ∨ 4096 < ZS.length) := by
            refine .inr (.inr ?_)
            rw [← HRES.out, List.length_append]
            omega
          have hzb : (4096 : Int) < (zn : Int) := by have := HZN.out; unfold Hid at this; omega
          go_wp2_with fail
          refine ⟨?_, by simp [intOf]; omega⟩
          first
            | exact ⟨i + 1, b, B + Y, ZS, by omega, rfl, rfl, by omega, by omega, HSE.out, HB2.out, HSTEP.out, HOE.out, HGF.out⟩
            | (repeat apply Exists.intro
               refine ⟨?_, rfl⟩
               exact ⟨i + 1, b, B + Y, ZS, by omega, rfl, rfl, by omega, by omega, HSE.out, HB2.out, HSTEP.out, HOE.out, HGF.out⟩)
        have hbE : b = B' := by
          rcases HST.out with h | h | h
          · exact h
          · omega
          · omega
        subst hbE
        have hzs : (zn : Int) ≤ 4096 := by have := HZN.out; unfold Hid at this; omega
        have hd0 : 0 ≤ ((T - (m + 1) : Nat) : Int) * O := Int.mul_nonneg (by omega) hO0
        have HBT2 : Hid (b + O + ((T - (m + 1) : Nat) : Int) * O = B + Y) := by
          have h := HBT.out
          unfold Hid at h ⊢
          have he : ((T - m : Nat) : Int) = ((T - (m + 1) : Nat) : Int) + 1 := by omega
          rw [he, Int.add_mul] at h
          omega
        have hbO : b + O ≤ B + Y := by have := HBT2.out; unfold Hid at this; omega
        have HRES2 : Hid (((Z' ++ win fr till (evs.map (shift b))) ++ win fr till (playF k (b + l))) ++ win fr till (repF (oneF l evs k) O (T - (m + 1)) (b + O)) = ZS) := by
          have h := HRES.out
          unfold Hid at h ⊢
          rw [show T - m = (T - (m + 1)) + 1 from by omega, rep_step, HONE.out] at h
          exact h
        have hmT2 : m < T := by omega
        clear HRES HBT HST c3 c2 c1 HZN hd0
        obtain ⟨wn, hwn⟩ : ∃ wn : World, wn = wr := ⟨_, rfl⟩
        subst hwn
        go_wp2_with fail
        trace "in"
        go_loopw [4, 43] (fun v4 v43 we => ∃ j : Nat, j ≤ ne ∧ v43 = .int .i64 (j : Int) ∧ Hid (OutS w0 we v4 (Z' ++ win fr till ((evs.take j).map (shift b)))) ∧ Hid (Gr w0.heap.size [60] wn we)) (fun _ v43 _ => ne - (intOf v43).toNat)
        case atStart =>
          refine ⟨0, Nat.zero_le _, rfl, ?_, Gr.refl _ _ _⟩
          unfold Hid
          rw [List.take_zero]
          show OutS w0 wn _ (Z' ++ [])
          rw [List.append_nil]
          exact HOZ.out
        case round =>
          clear HOZ
          obtain ⟨j, hj, rfl, HOJ, HGJ⟩ := hrel
          obtain ⟨oo, oc, rfl⟩ := HOJ.out.open
          have HRJ : Hid (wr.heap[sb]? = some (.cells #[.int .i64 t, .int .i64 l, .slice ae ne ce, .slice ak nk ck] 44 (0, 0))) := HGJ.out.keep HRM.out (by simp)
          by_cases hje : j = ne
          · have HOE : Hid (OutS w0 wr (.slice oo ((Z' ++ win fr till ((evs.take j).map (shift b))).take 4097).length oc) (Z' ++ win fr till (evs.map (shift b)))) := by
              have h := HOJ.out
              unfold Hid at h ⊢
              rw [hje, ← HNE.out, List.take_length] at h
              rw [hje, ← HNE.out, List.take_length]
              exact h
            obtain ⟨vn, hvn⟩ : ∃ vn, ((Z' ++ win fr till ((evs.take j).map (shift b))).take 4097).length = vn := ⟨_, rfl⟩
            rw [hvn] at HOE
            simp only [hvn]
            clear hvn HOJ
            have ebl : IntKind.i64.wrap (b + l) = b + l := IntWalk.i64_in _ (by omega)
            have emm : IntKind.i64.wrap ((m : Int) + 1) = (m : Int) + 1 := IntWalk.i64_in _ (by omega)
            have hblK : b + l + K = b + O := by have := HLO.out; unfold Hid at this; omega
            have WC := Lib.hid (HIH.out wr (b + l) (.slice oo vn oc) _ (by omega) (by rw [HKK.out]; omega) HOE.out)
            have HBLK := Lib.hid hblK
            clear p0 p1 p2 p3 hblK
            have p1 := cell_of HRJ.out 1
            have p3 := cell_of HRJ.out 3
            subst hje
            go_upto_region 15 with fail
            go_upto_region 6 with (go_at_call 19; refine (WC.out).mono ?_; rintro e1 w1 hw1; obtain ⟨o', a', rfl, hO2, hA1, hA2, hA3, hG2⟩ := hw1.out; have HO2 := Lib.hid hO2; have HA3 := Lib.hid hA3; have HG2 := Lib.hid hG2; clear hw1 hO2 hA3 hG2)
            obtain ⟨wy, rfl⟩ : ∃ wy : World, wy = w1 := ⟨_, rfl⟩
            have hA2' : a' ≤ b + O := by have h := HBLK.out; have h2 := HKK.out; unfold Hid at h h2; omega
            have HA4 : Hid (a' = b + O ∨ till ≤ a' ∨ 4096 < ((Z' ++ win fr till (evs.map (shift b))) ++ win fr till (playF k (b + l))).length) := by
              have h := HA3.out
              unfold Hid at h ⊢
              rw [HKK.out, HBLK.out] at h
              exact h
            have HG3 : Hid (Gr w0.heap.size [60] wx wy) := (HGM.out.trans HGJ.out).trans HG2.out
            have haa' : a ≤ a' := by omega
            clear hA1 hA2 HA3 p1 p3
            go_wp2_with fail
            refine ⟨?_, by simp [intOf]; omega⟩
            first
              | exact ⟨m + 1, a', b + O, _, by omega, rfl, rfl, haa', hA2', hbO, HA4.out, HBT2.out, HRES2.out, HO2.out, HG3.out⟩
              | (repeat apply Exists.intro
                 refine ⟨?_, rfl⟩
                 exact ⟨m + 1, a', b + O, _, by omega, rfl, rfl, haa', hA2', hbO, HA4.out, HBT2.out, HRES2.out, HO2.out, HG3.out⟩)
          have hjn : j < ne := by omega
          have hjn2 : (j : Int) < (ne : Int) := by omega
          obtain ⟨ev, hev⟩ : ∃ ev, evs[j]? = some ev := ⟨evs[j]'(by have := HNE.out; unfold Hid at this; omega), List.getElem?_eq_getElem _⟩
          obtain ⟨eb, eo, rfl, hrg⟩ := evs_at HEV.out hev
          have hbd := HBD.out ev (List.mem_of_getElem? hev)
          have HEJ := Lib.hid hev
          have hgr := HOJ.out.gr
          obtain ⟨ea, kd, ch, da, db⟩ := ev
          simp only at hbd
          obtain ⟨hb0, hb1⟩ := hbd
          have e0 : wr.cell? ⟨eb, eo + j * 5, none⟩ = some (.int .i64 ea) := grown_cell hgr (hrg 0 _ rfl) (by simp)
          have e1 : wr.cell? ⟨eb, eo + j * 5 + 1, none⟩ = some (.int .i64 kd) := grown_cell hgr (hrg 1 _ rfl) (by simp)
          have e2 : wr.cell? ⟨eb, eo + j * 5 + 2, none⟩ = some (.int .i64 ch) := grown_cell hgr (hrg 2 _ rfl) (by simp)
          have e3 : wr.cell? ⟨eb, eo + j * 5 + 3, none⟩ = some (.int .i64 da) := grown_cell hgr (hrg 3 _ rfl) (by simp)
          have e4 : wr.cell? ⟨eb, eo + j * 5 + 4, none⟩ = some (.int .i64 db) := grown_cell hgr (hrg 4 _ rfl) (by simp)
          clear hev hrg hgr p0 p1 p2 p3
          have HSTJ := Lib.hid (inW_cons fr till Z' evs b j _ HEJ.out)
          obtain ⟨V, hV⟩ : ∃ V, Z' ++ win fr till ((evs.take j).map (shift b)) = V := ⟨_, rfl⟩
          rw [hV] at HOJ HSTJ
          simp only [hV]
          clear hV
          obtain ⟨vn, hvn⟩ : ∃ vn, (V.take 4097).length = vn := ⟨_, rfl⟩
          have HVN : Hid (vn = min 4097 V.length) := by unfold Hid; rw [← hvn, List.length_take]
          have HVT := Lib.hid hvn
          rw [hvn] at HOJ
          simp only [hvn]
          clear hvn
          have hvn2 : vn ≤ 4097 := by have := HVN.out; unfold Hid at this; omega
          have ew : IntKind.i64.wrap (b + ea) = b + ea := IntWalk.i64_in _ (by omega)
          obtain ⟨sc, hsc⟩ : ∃ sc, wr.heap.size = sc := ⟨_, rfl⟩
          have HSC := Lib.hid hsc
          clear hsc
          go_upto_region 10 with fail
          simp only [HSC.out]
          obtain ⟨wf, hwf⟩ : ∃ wf, wr.alloc (.cells #[.int .i64 ea, .int .i64 kd, .int .i64 ch, .int .i64 da, .int .i64 db] 60) = wf := ⟨_, rfl⟩
          have HGRF : Hid (wr.grownBy wf none) := by unfold Hid; rw [← hwf]; exact grown_alloc (grown_refl _ _) _
          have HRF : Hid (wf.heap[sc]? = some (.cells #[.int .i64 ea, .int .i64 kd, .int .i64 ch, .int .i64 da, .int .i64 db] 60 (0, 0))) := by unfold Hid; rw [← hwf, ← HSC.out]; exact heap_alloc_new _ _
          simp only [hwf]
          clear hwf e0 e1 e2 e3 e4
          have HOF : Hid (OutS w0 wf (.slice oo vn oc) V) := HOJ.out.kept HGRF.out
          have HGJF : Hid (Gr w0.heap.size [60] wn wf) := HGJ.out.trans (Gr.of_none HGRF.out)
          have p0 := cell_of HRF.out 0
          have p1 := cell_of HRF.out 1
          have p2 := cell_of HRF.out 2
          have p3 := cell_of HRF.out 3
          have p4 := cell_of HRF.out 4
          by_cases k1 : b + ea < fr
          · have HNX : Hid (OutS w0 wf (.slice oo vn oc) (Z' ++ win fr till ((evs.take (j + 1)).map (shift b)))) := by
              have := HSTJ.out
              unfold Hid at this ⊢
              rw [this, if_neg (by unfold inW shift; simp; omega), List.append_nil]
              exact HOF.out
            go_wp2_with fail
            refine ⟨?_, by simp [intOf]; omega⟩
            first
              | exact ⟨j + 1, by omega, rfl, HNX.out, HGJF.out⟩
              | (repeat apply Exists.intro
                 refine ⟨?_, rfl⟩
                 exact ⟨j + 1, by omega, rfl, HNX.out, HGJF.out⟩)
          have k1' : fr ≤ b + ea := by omega
          by_cases k2 : till ≤ b + ea
          · have HNX : Hid (OutS w0 wf (.slice oo vn oc) (Z' ++ win fr till ((evs.take (j + 1)).map (shift b)))) := by
              have := HSTJ.out
              unfold Hid at this ⊢
              rw [this, if_neg (by unfold inW shift; simp; omega), List.append_nil]
              exact HOF.out
            go_wp2_with fail
            refine ⟨?_, by simp [intOf]; omega⟩
            first
              | exact ⟨j + 1, by omega, rfl, HNX.out, HGJF.out⟩
              | (repeat apply Exists.intro
                 refine ⟨?_, rfl⟩
                 exact ⟨j + 1, by omega, rfl, HNX.out, HGJF.out⟩)
          have k2' : b + ea < till := by omega
          have HIN : Hid (inW fr till (shift b ⟨ea, kd, ch, da, db⟩) = true) := by unfold Hid inW shift; simp; omega
          by_cases k3 : 4096 < V.length
          · have HNX : Hid (OutS w0 wf (.slice oo vn oc) (Z' ++ win fr till ((evs.take (j + 1)).map (shift b)))) := by
              have := HSTJ.out
              unfold Hid at this ⊢
              rw [this]
              exact HOF.out.full k3 _
            have hvb : (4096 : Int) < (vn : Int) := by have := HVN.out; unfold Hid at this; omega
            clear k1 k2
            go_wp2_with fail
            refine ⟨?_, by simp [intOf]; omega⟩
            first
              | exact ⟨j + 1, by omega, rfl, HNX.out, HGJF.out⟩
              | (repeat apply Exists.intro
                 refine ⟨?_, rfl⟩
                 exact ⟨j + 1, by omega, rfl, HNX.out, HGJF.out⟩)
          have hvl : V.length = vn := by have := HVN.out; unfold Hid at this; omega
          have hvs : (vn : Int) ≤ 4096 := by omega
          have HVL := Lib.hid hvl
          have HOW : Hid (wf.ownsRow w0.heap.size 60 5 (.slice oo vn oc) vn (evC V)) := by
            have h := HOF.out.ow
            rw [HVT.out, List.take_of_length_le (by omega)] at h
            exact h
          clear k1 k2 k3 hvl
          have hscl : sc < wf.heap.size := lt_of HRF.out
          have pa0 : ∀ o, (wf.alloc o).cell? ⟨sc, 0, none⟩ = some (.int .i64 ea) := fun o => cell_of (row_kept (grown_alloc (grown_refl _ none) _) HRF.out (by simp)) 0
          go_upto_region 13 with fail
          obtain ⟨sd, hsd⟩ : ∃ sd, wf.heap.size = sd := ⟨_, rfl⟩
          have HSD := Lib.hid hsd
          clear hsd hscl pa0 p0 p1 p2 p3 p4
          simp only [HSD.out]
          obtain ⟨wg, hwg⟩ : ∃ wg, wf.alloc (.cells #[.int .i64 (b + ea), .int .i64 kd, .int .i64 ch, .int .i64 da, .int .i64 db] 60) = wg := ⟨_, rfl⟩
          have HGFG : Hid (wf.grownBy wg none) := by unfold Hid; rw [← hwg]; exact grown_alloc (grown_refl _ _) _
          have HRG : Hid (wg.heap[sd]? = some (.cells #[.int .i64 (b + ea), .int .i64 kd, .int .i64 ch, .int .i64 da, .int .i64 db] 60 (0, 0))) := by unfold Hid; rw [← hwg, ← HSD.out]; exact heap_alloc_new _ _
          simp only [hwg]
          clear hwg
          have HOG : Hid (OutS w0 wg (.slice oo vn oc) V) := HOF.out.kept HGFG.out
          have HOWG : Hid (wg.ownsRow w0.heap.size 60 5 (.slice oo vn oc) vn (evC V)) := own_kept HOW.out HGFG.out
          have HGJG : Hid (Gr w0.heap.size [60] wn wg) := HGJF.out.trans (Gr.of_none HGFG.out)
          have p0 := cell_of HRG.out 0
          have p1 := cell_of HRG.out 1
          have p2 := cell_of HRG.out 2
          have p3 := cell_of HRG.out 3
          have p4 := cell_of HRG.out 4
          go_upto_region 14 with (at_builtin; refine append_one rfl _ _ 32 rfl w0.heap.size 60 i0 _ 5 40 Try.underlying32 hi hz0 hz1 hz2 rfl (by decide) (.slice oo vn oc) vn (evC V) rfl wg _ _ HOWG.out rfl rfl (by simp [Value.oneCell']) (by unfold maxLen; omega) (by omega) HOG.out.gr.size ?_; intro v9 w9 hown9 hg9 hat9)
          have HNX : Hid (OutS w0 w9 v9 (Z' ++ win fr till ((evs.take (j + 1)).map (shift b)))) := by
            have hst := HSTJ.out
            unfold Hid at hst ⊢
            rw [hst, if_pos HIN.out]
            have h := hown9.out
            have hvl := HVL.out
            unfold Hid at h hvl
            rw [← hvl, Int.add_comm b ea] at h
            exact OutS.push (e := shift b ⟨ea, kd, ch, da, db⟩) HOG.out (by omega) h hg9.out
          have HGJ9 : Hid (Gr w0.heap.size [60] wn w9) := HGJG.out.trans (HOG.out.gr60 hg9.out)
          clear p0 p1 p2 p3 p4 hat9
          go_wp2_with fail
          refine ⟨?_, by simp [intOf]; omega⟩
          first
            | exact ⟨j + 1, by omega, rfl, HNX.out, HGJ9.out⟩
            | (repeat apply Exists.intro
               refine ⟨?_, rfl⟩
               exact ⟨j + 1, by omega, rfl, HNX.out, HGJ9.out⟩)

end Go.Proofs.Ythmcicmebaibgaa.TWalk
