/- unpoked: the walk. -/
import Derived.Test.YtdnmimfichijgaaKAlive
import Derived.Test.YtdnmimfichijgaaKJ
namespace Go.Proofs.Ytdnmimfichijgaa.KUnp
open Go Go.RowKit Go.Proofs.Ytdnmimfichijgaa.KMod Go.Proofs.Ytdnmimfichijgaa.KTk Go.Proofs.Ytdnmimfichijgaa.KRead Go.Proofs.Ytdnmimfichijgaa.KCells Go.Proofs.Ytdnmimfichijgaa.KTake Go.Proofs.Ytdnmimfichijgaa.KJ Go.Proofs.Ytdnmimfichijgaa.Hp Go.Proofs.Ytdnmimfichijgaa.Rd Go.Proofs.Ytdnmimfichijgaa.Opn
set_option linter.unusedVariables false
set_option linter.unusedSimpArgs false

theorem info44 : (Try.prog.info? 44).map (fun i => (i.zero, i.size, i.bytes)) = some (some (.agg #[.bool false, .int .i64 0, .int .i64 0, .int .i64 0, .int .i64 0, .int .i64 0, .int .i64 0, .int .i64 0, .int .i64 0, .int .i64 0, .int .i64 0]), 11, 88) := by kernel_rfl
theorem st_len (p : Stp) : (stC p).length = 11 := rfl

set_option maxHeartbeats 2000000 in
set_option maxRecDepth 100000 in
theorem unpoked_calls (sa : Option Addr) (sc : Nat) (ps : List Stp) (w : World) (hp : SlA 11 stC w AnyB (.slice sa ps.length sc) ps) (hpb : ps.length * 88 ≤ 140737488355328) :
    Calls Try.prog 11 #[.slice sa ps.length sc] w fun e w' => ∃ v, e = .returned v ∧ Hid (w'.ownsRow w.heap.size 44 11 v ps.length (flC stC (ps.map noPoke))) ∧ Hid (w.grownBy w' none) := by
  obtain ⟨n, hn⟩ : ∃ n, ps.length = n := ⟨_, rfl⟩
  have HN := Lib.hid hn
  rw [hn] at hp hpb ⊢
  have HP := Lib.hid hp
  clear hp hn
  obtain ⟨i3, hi3, hy0, hy1, hy2⟩ := info_parts info44
  have hnb : (n : Int) ≤ 1599289640401 := by omega
  go_enter Try.func11, Try.ntmps11
  go_wp2_with fail
  go_loopw [3, 8] (fun v3 v8 wr => ∃ (k : Nat) (oa : Option Addr) (oc : Nat), k ≤ n ∧ v3 = .slice oa k oc ∧ v8 = .int .i64 (k : Int) ∧ Hid (wr.ownsRow w.heap.size 44 11 (.slice oa k oc) k (flC stC ((ps.take k).map noPoke))) ∧ Hid (w.grownBy wr none)) (fun _ v8 _ => n - (intOf v8).toNat)
  case atStart => exact ⟨0, none, 0, Nat.zero_le _, rfl, rfl, World.ownsRow_nil _ _ _ _, grown_refl _ _⟩
  case round =>
    obtain ⟨k, oa, oc, hk, rfl, rfl, HO, HG⟩ := hrel
    obtain ⟨wz, hwz⟩ : ∃ wz : World, wz = wr := ⟨_, rfl⟩
    subst hwz
    by_cases hkn : k = n
    · have HF : Hid ((ps.take k) = ps) := by unfold Hid; rw [hkn, List.take_of_length_le (by rw [HN.out]; exact Nat.le_refl _)]
      have hk2 := hkn.symm
      subst hk2
      clear hkn
      go_wp2_with fail
      go_ret
      refine ⟨_, rfl, ?_, HG.out⟩
      have h := HO.out
      rw [HF.out] at h
      exact h
    · have hkl : (k : Int) < (n : Int) := by omega
      obtain ⟨p, hp⟩ : ∃ p, ps[k]? = some p := ⟨ps[k]'(by rw [HN.out]; omega), List.getElem?_eq_getElem _⟩
      obtain ⟨b, off, rfl, _, hrg⟩ := sla_at HP.out hp
      have HTK : Hid (ps.take (k + 1) = ps.take k ++ [p]) := by unfold Hid; rw [List.take_add_one, hp]; rfl
      clear hp
      obtain ⟨OP, ⟨D, N, ⟨ta, tl, tt, tal, to_⟩⟩, PW, PK, WD⟩ := p
      have e0 : wz.cell? ⟨b, off + k * 11, none⟩ = some (.bool OP) := grown_cell HG.out (hrg 0 _ rfl) (by simp)
      have e1 : wz.cell? ⟨b, off + k * 11 + 1, none⟩ = some (.int .i64 D) := grown_cell HG.out (hrg 1 _ rfl) (by simp)
      have e2 : wz.cell? ⟨b, off + k * 11 + 2, none⟩ = some (.int .i64 N) := grown_cell HG.out (hrg 2 _ rfl) (by simp)
      have e3 : wz.cell? ⟨b, off + k * 11 + 3, none⟩ = some (.int .i64 ta) := grown_cell HG.out (hrg 3 _ rfl) (by simp)
      have e4 : wz.cell? ⟨b, off + k * 11 + 4, none⟩ = some (.int .i64 tl) := grown_cell HG.out (hrg 4 _ rfl) (by simp)
      have e5 : wz.cell? ⟨b, off + k * 11 + 5, none⟩ = some (.int .i64 tt) := grown_cell HG.out (hrg 5 _ rfl) (by simp)
      have e6 : wz.cell? ⟨b, off + k * 11 + 6, none⟩ = some (.int .i64 tal) := grown_cell HG.out (hrg 6 _ rfl) (by simp)
      have e7 : wz.cell? ⟨b, off + k * 11 + 7, none⟩ = some (.int .i64 to_) := grown_cell HG.out (hrg 7 _ rfl) (by simp)
      have e8 : wz.cell? ⟨b, off + k * 11 + 8, none⟩ = some (.int .i64 PW) := grown_cell HG.out (hrg 8 _ rfl) (by simp)
      have e9 : wz.cell? ⟨b, off + k * 11 + 9, none⟩ = some (.int .i64 PK) := grown_cell HG.out (hrg 9 _ rfl) (by simp)
      have e10 : wz.cell? ⟨b, off + k * 11 + 10, none⟩ = some (.int .i64 WD) := grown_cell HG.out (hrg 10 _ rfl) (by simp)
      clear hrg
      obtain ⟨sb, hsb⟩ : ∃ sb, wz.heap.size = sb := ⟨_, rfl⟩
      have HSB := Lib.hid hsb
      clear hsb
      go_upto_region 6 with fail
      simp only [HSB.out]
      obtain ⟨w4, hw4⟩ : ∃ w4, wz.alloc (.cells #[.bool OP, .int .i64 D, .int .i64 N, .int .i64 ta, .int .i64 tl, .int .i64 tt, .int .i64 tal, .int .i64 to_, .int .i64 PW, .int .i64 0, .int .i64 WD] 44) = w4 := ⟨_, rfl⟩
      have HG4 : Hid (wz.grownBy w4 none) := by unfold Hid; rw [← hw4]; exact grown_alloc (grown_refl _ _) _
      have HS4 : Hid (w4.heap[sb]? = some (.cells #[.bool OP, .int .i64 D, .int .i64 N, .int .i64 ta, .int .i64 tl, .int .i64 tt, .int .i64 tal, .int .i64 to_, .int .i64 PW, .int .i64 0, .int .i64 WD] 44 (0, 0))) := by unfold Hid; rw [← hw4, ← HSB.out]; exact heap_alloc_new _ _
      simp only [hw4]
      clear hw4 e0 e1 e2 e3 e4 e5 e6 e7 e8 e9 e10
      have s0 := cell_of HS4.out 0
      have s1 := cell_of HS4.out 1
      have s2 := cell_of HS4.out 2
      have s3 := cell_of HS4.out 3
      have s4 := cell_of HS4.out 4
      have s5 := cell_of HS4.out 5
      have s6 := cell_of HS4.out 6
      have s7 := cell_of HS4.out 7
      have s8 := cell_of HS4.out 8
      have s9 := cell_of HS4.out 9
      have s10 := cell_of HS4.out 10
      have HGA : Hid (w4.grownBy (w4.alloc (.cells #[.bool OP, .int .i64 D, .int .i64 N, .int .i64 ta, .int .i64 tl, .int .i64 tt, .int .i64 tal, .int .i64 to_, .int .i64 PW, .int .i64 0, .int .i64 WD] 44)) none) := grown_alloc (grown_refl _ _) _
      have HOWN : Hid ((w4.alloc (.cells #[.bool OP, .int .i64 D, .int .i64 N, .int .i64 ta, .int .i64 tl, .int .i64 tt, .int .i64 tal, .int .i64 to_, .int .i64 PW, .int .i64 0, .int .i64 WD] 44)).ownsRow w.heap.size 44 11 (.slice oa k oc) k (flC stC ((ps.take k).map noPoke))) := own_kept (own_kept HO.out HG4.out) HGA.out
      have hkb : k + 1 ≤ 1599289640401 := by omega
      go_upto_region 7 with (at_builtin; refine wpList_append_own_at _ rfl _ _ 23 rfl w.heap.size 44 i3 (.agg #[.bool false, .int .i64 0, .int .i64 0, .int .i64 0, .int .i64 0, .int .i64 0, .int .i64 0, .int .i64 0, .int .i64 0, .int .i64 0, .int .i64 0]) 11 88 Try.underlying23 hi3 hy0 hy1 hy2 rfl (by decide) (.slice oa k oc) k (flC stC ((ps.take k).map noPoke)) rfl HOWN.out ⟨w4.heap.size, 0, none⟩ 1 1 [.bool OP, .int .i64 D, .int .i64 N, .int .i64 ta, .int .i64 tl, .int .i64 tt, .int .i64 tal, .int .i64 to_, .int .i64 PW, .int .i64 0, .int .i64 WD] rfl rfl (fun j u hu => by rw [show ((⟨w4.heap.size, 0, none⟩ : Addr).add j) = ⟨w4.heap.size, 0 + j, none⟩ from Addr.add_lit _ _ _, Nat.zero_add, cell_of (heap_alloc_new _ _), ← Array.getElem?_toList]; exact hu) (by simp [Value.oneCell']) (by unfold maxLen; omega) (by omega) (by have h1 := HG.out.size; have h2 := HG4.out.size; have h4 := HGA.out.size; omega) ?_; intro v11 w11 ho11 hg11 _ hb11; obtain ⟨oa2, oc2, rfl⟩ := own_slice ho11)
      have HG11 : Hid (w.grownBy w11 none) := grown_own (grown_trans HG.out (grown_trans HG4.out HGA.out)) HOWN.out (Nat.le_refl _) hg11
      have HO11 : Hid (w11.ownsRow w.heap.size 44 11 (.slice oa2 (k + 1) oc2) (k + 1) (flC stC ((ps.take (k + 1)).map noPoke))) := by
        unfold Hid
        rw [HTK.out, List.map_append, flC_append]
        exact ho11
      have hwk : IntKind.i64.wrap ((k : Int) + 1) = (k : Int) + 1 := IntWalk.i64_in _ (by omega)
      clear ho11 hg11 hb11
      go_wp2_with fail
      refine ⟨?_, by simp [intOf]; omega⟩
      first
        | exact ⟨k + 1, oa2, oc2, by omega, rfl, rfl, HO11.out, HG11.out⟩
        | (repeat apply Exists.intro
           refine ⟨?_, rfl⟩
           exact ⟨k + 1, oa2, oc2, by omega, rfl, rfl, HO11.out, HG11.out⟩)
end Go.Proofs.Ytdnmimfichijgaa.KUnp
