/- The reference's Plain and Record. -/
import Derived.Test.YtdnmimfichijgaaKDisk
import Derived.Test.YtdnmimfichijgaaKRef
namespace Go.Proofs.Ytdnmimfichijgaa.KRPl
open Go Go.RowKit Go.Proofs.Ytdnmimfichijgaa.KMod Go.Proofs.Ytdnmimfichijgaa.KTk Go.Proofs.Ytdnmimfichijgaa.KRead Go.Proofs.Ytdnmimfichijgaa.KDisk Go.Proofs.Ytdnmimfichijgaa.Hp Go.Proofs.Ytdnmimfichijgaa.Rd Go.Proofs.Ytdnmimfichijgaa.Opn
set_option linter.unusedVariables false
set_option linter.unusedSimpArgs false

set_option maxHeartbeats 1000000 in
theorem rplain_calls (e : Ed) (w : World) :
    Calls Try.prog 18 #[.agg #[.int .i64 e.do_, .int .i64 e.n, .int .i64 e.t.at_, .int .i64 e.t.long, .int .i64 e.t.lt, .int .i64 e.t.al, .int .i64 e.t.oc]] w fun r w' => r = .returned (.agg #[.int .i64 (plainE e).do_, .int .i64 (plainE e).n, .int .i64 (plainE e).t.at_, .int .i64 (plainE e).t.long, .int .i64 (plainE e).t.lt, .int .i64 (plainE e).t.al, .int .i64 (plainE e).t.oc]) ∧ Hid (w.grownBy w' none) := by
  obtain ⟨D, N, ⟨ta, tl, tt, tal, to_⟩⟩ := e
  have HP : Hid (plainE ⟨D, N, ⟨ta, tl, tt, tal, to_⟩⟩ = if D = 1 then ⟨1, 0, ⟨ta, tl, tt, tal, to_⟩⟩ else if D = 2 then ⟨2, N, tone0⟩ else ⟨D, 0, tone0⟩) := rfl
  simp only
  have G : Hid (∀ k : Nat, ∀ o1 o2 : Obj, w.grownBy (((w.alloc o1).alloc o2)) none) := fun _ _ _ => grown_alloc (grown_alloc (grown_refl _ _) _) _
  have hnn := Nat.succ_ne_self w.heap.size
  by_cases h1 : D = 1
  · rw [if_pos h1] at HP
    subst h1
    go_enter Try.func18, Try.ntmps18
    go_wp2_with fail
    refine bodyPost_ret (v := .agg #[.int .i64 1, .int .i64 0, .int .i64 ta, .int .i64 tl, .int .i64 tt, .int .i64 tal, .int .i64 to_]) (by simp [results, Try.results18, go_sem]) rfl ⟨by rw [HP.out], G.out 0 _ _⟩
  · rw [if_neg h1] at HP
    by_cases h2 : D = 2
    · rw [if_pos h2] at HP
      subst h2
      clear h1
      go_enter Try.func18, Try.ntmps18
      go_wp2_with fail
      refine bodyPost_ret (v := .agg #[.int .i64 2, .int .i64 N, .int .i64 0, .int .i64 0, .int .i64 0, .int .i64 0, .int .i64 0]) (by simp [results, Try.results18, go_sem]) rfl ⟨by rw [HP.out]; rfl, G.out 0 _ _⟩
    · rw [if_neg h2] at HP
      go_enter Try.func18, Try.ntmps18
      go_wp2_with fail
      refine bodyPost_ret (v := .agg #[.int .i64 D, .int .i64 0, .int .i64 0, .int .i64 0, .int .i64 0, .int .i64 0, .int .i64 0]) (by simp [results, Try.results18, go_sem]) rfl ⟨by rw [HP.out]; rfl, G.out 0 _ _⟩

set_option maxHeartbeats 1000000 in
theorem record_calls (e : Ed) (w : World) :
    Calls Try.prog 20 #[.agg #[.int .i64 e.do_, .int .i64 e.n, .int .i64 e.t.at_, .int .i64 e.t.long, .int .i64 e.t.lt, .int .i64 e.t.al, .int .i64 e.t.oc]] w fun r w' => ∃ g, r = .returned (.slice (some ⟨g, 0, none⟩) 8 8) ∧ Hid (w'.heap[g]? = some (.cells #[.int .i64 1, .int .i64 e.do_, .int .i64 e.n, .int .i64 e.t.at_, .int .i64 e.t.long, .int .i64 e.t.lt, .int .i64 e.t.al, .int .i64 e.t.oc] 2 (0, 0))) ∧ Hid (w.heap.size ≤ g) ∧ Hid (w.grownBy w' none) := by
  obtain ⟨D, N, ⟨ta, tl, tt, tal, to_⟩⟩ := e
  simp only
  have hnn := Nat.succ_ne_self w.heap.size
  go_enter Try.func20, Try.ntmps20
  go_wp2_with fail
  go_ret
  refine ⟨_, rfl, ?_, ?_, grown_alloc (grown_alloc (grown_alloc (grown_refl _ _) _) _) _⟩
  · exact alloc3 _ _ _ _
  · show w.heap.size ≤ w.heap.size + 1 + 1
    omega
end Go.Proofs.Ytdnmimfichijgaa.KRPl
