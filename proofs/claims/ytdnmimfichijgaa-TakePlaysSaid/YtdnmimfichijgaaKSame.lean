/- Same, of lines that are the same: it only draws. -/
import Derived.Test.YtdnmimfichijgaaKLess
import Derived.Laws.StructEq
import Derived.Deep.QuietTactic
namespace Go.Proofs.Ytdnmimfichijgaa.KSame
open Go Go.RowKit Go.Proofs.Ytdnmimfichijgaa.KMod Go.Proofs.Ytdnmimfichijgaa.KRead Go.Proofs.Ytdnmimfichijgaa.KLess Go.Proofs.Ytdnmimfichijgaa.Opn Go.Proofs.Ytdnmimfichijgaa.Hp Go.Proofs.Ytdnmimfichijgaa.Rd
set_option linter.unusedVariables false

set_option maxHeartbeats 1000000 in
set_option maxRecDepth 100000 in
theorem same_quiet (a b : Option Addr) (c d : Nat) (es : List Tone) (w : World) (ha : Tos w (.slice a es.length c) es) (hb : Tos w (.slice b es.length d) es) (hmax : es.length ≤ 1099511627776) :
    Calls Try.prog 9 #[.slice a es.length c, .slice b es.length d] w fun e w' => e = .returned (.bool true) ∧ ∃ m, w' = w.drewN m := by
  obtain ⟨n, hn⟩ : ∃ n, es.length = n := ⟨_, rfl⟩
  have HN := Lib.hid hn
  rw [hn] at ha hb hmax ⊢
  have HA := Lib.hid ha
  have HB := Lib.hid hb
  clear hn ha hb
  go_enter Try.func9, Try.ntmps9
  go_wp2_with fail
  go_loopw [13] (fun i wr => ∃ k : Nat, k ≤ n ∧ i = .int .i64 k ∧ ∃ m, wr = w.drewN m) (fun i _ => n - (intOf i).toNat)
  case atStart => exact ⟨0, Nat.zero_le _, rfl, 0, rfl⟩
  case round =>
    obtain ⟨k, hk, rfl, m, rfl⟩ := hrel
    by_cases hlt : k < n
    · obtain ⟨e, hek⟩ : ∃ e, es[k]? = some e := ⟨es[k]'(by rw [HN.out]; exact hlt), List.getElem?_eq_getElem _⟩
      obtain ⟨b1, o1, rfl, _, hc⟩ := sla_at HA.out hek
      obtain ⟨b2, o2, rfl, _, hd⟩ := sla_at HB.out hek
      have c0 : w.cell? ⟨b1, o1 + k * 5, none⟩ = some (.int .i64 e.at_) := hc 0 _ rfl
      have c1 : w.cell? ⟨b1, o1 + k * 5 + 1, none⟩ = some (.int .i64 e.long) := hc 1 _ rfl
      have c2 : w.cell? ⟨b1, o1 + k * 5 + 2, none⟩ = some (.int .i64 e.lt) := hc 2 _ rfl
      have c3 : w.cell? ⟨b1, o1 + k * 5 + 3, none⟩ = some (.int .i64 e.al) := hc 3 _ rfl
      have c4 : w.cell? ⟨b1, o1 + k * 5 + 4, none⟩ = some (.int .i64 e.oc) := hc 4 _ rfl
      have d0 : w.cell? ⟨b2, o2 + k * 5, none⟩ = some (.int .i64 e.at_) := hd 0 _ rfl
      have d1 : w.cell? ⟨b2, o2 + k * 5 + 1, none⟩ = some (.int .i64 e.long) := hd 1 _ rfl
      have d2 : w.cell? ⟨b2, o2 + k * 5 + 2, none⟩ = some (.int .i64 e.lt) := hd 2 _ rfl
      have d3 : w.cell? ⟨b2, o2 + k * 5 + 3, none⟩ = some (.int .i64 e.al) := hd 3 _ rfl
      have d4 : w.cell? ⟨b2, o2 + k * 5 + 4, none⟩ = some (.int .i64 e.oc) := hd 4 _ rfl
      obtain ⟨at_, kind, ch, x, y⟩ := e
      simp only at c0 c1 c2 c3 c4 d0 d1 d2 d3 d4
      clear hc hd hek
      go_wp2_with fail
      go_quiet (fail)
      go_wp2_with fail
      go_roundw
      case rel => exact ⟨k + 1, by omega, by go_num, _, rfl⟩
      case measure => simp [intOf]; omega
    · obtain rfl : k = n := by omega
      go_wp2_with fail
      go_ret
      exact ⟨rfl, _, rfl⟩

end Go.Proofs.Ytdnmimfichijgaa.KSame
