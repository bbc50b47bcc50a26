/- Pack, the program's. -/
import Derived.Test.YtffdglhjfpnbpaaWWait
import Derived.Laws.BytesString
namespace Go.Proofs.Ytffdglhjfpnbpaa.WPack
open Go Go.RowKit Go.Proofs.Ytffdglhjfpnbpaa.WMod Go.Proofs.Ytffdglhjfpnbpaa.Opn Go.Proofs.Ytffdglhjfpnbpaa.Hp Go.Proofs.Ytffdglhjfpnbpaa.Rd Go.Proofs.Ytffdglhjfpnbpaa.WWrong Go.Proofs.Ytffdglhjfpnbpaa.WWait
set_option linter.unusedVariables false

def strOf (l : List Nat) : ByteArray := ⟨(l.map UInt8.ofNat).toArray⟩

theorem foldl_push (l : List Nat) (s : ByteArray) : (l.map fun n : Nat => (n : Int)).foldl (fun r n => r.push (UInt8.ofNat n.toNat)) s = ⟨s.data ++ (l.map UInt8.ofNat).toArray⟩ := by
  induction l generalizing s with
  | nil => simp
  | cons x r ih =>
    simp only [List.map_cons, List.foldl_cons]
    rw [ih]
    simp [ByteArray.push]

theorem str_of_own {w : World} {base n : Nat} {v : Value} {acc : List Nat} (h : w.ownsRow base 5 1 v n (acc.map byt)) : (convert 37 9 v).run Try.prog w = .ok (.string (strOf acc)) w := by
  have hl : acc.length = n := by have := h.1; simpa using this
  rcases owns_cells h with ⟨rfl, rfl, hnil⟩ | ⟨g, cap, rfl, _, _, _, hc⟩
  · rw [run_convert_bytes_string w 37 9 5 none 0 0 Try.underlying37 Try.underlying5 Try.underlying9]
    obtain rfl : acc = [] := List.eq_nil_of_length_eq_zero hl
    rfl
  · rw [run_convert_bytes_string w 37 9 5 _ _ _ Try.underlying37 Try.underlying5 Try.underlying9]
    rw [run_bytesToString w ⟨g, 0, none⟩ n cap (acc.map fun n : Nat => (n : Int)) (by
      have h2 := run_loadCells_list (P := Try.prog) w ⟨g, 0, none⟩ (acc.map byt) (fun j u hj => by rw [Addr.add_lit, Nat.zero_add]; exact hc j u hj)
      rw [List.length_map, hl] at h2
      rw [h2]
      simp [byt])]
    rw [foldl_push]
    simp [strOf, ByteArray.empty, ByteArray.emptyWithCapacity]
    rfl

/-- One byte behind an own row. -/
theorem append_byte {w : World} {ops : Array Oper} {rest : List Oper} {o : Oper} {a : Act} {Q : Exit → Act → World → Prop} (hgd : o.guard = none) (s x : Operand)
    (ho : o.op = .call { callee := .builtin .append, args := #[s, x], argTypes := #[37, 37] }) (base : Nat) (v : Value) (n : Nat) (xs : List Value) (hs : a.eval s = v) (d : Int)
    (hown : w.ownsRow base 5 1 v n xs) (hx : a.eval x = .slice (some ⟨w.heap.size, 0, none⟩) 1 1) (hn : n ≤ 1099511627776) (hbase : base ≤ w.heap.size)
    (h : ∀ v' w', Hid (w'.ownsRow base 5 1 v' (n + 1) (xs ++ [.int .u8 d])) → Hid (Gr base [5] w w') → wpList Try.prog ops Q rest (a.put o.dst v') w') :
    wpList Try.prog ops Q (o :: rest) a (w.alloc (.cells #[.int .u8 d] 5)) := by
  obtain ⟨i0, hi, hz0, hz1, hz2⟩ := info_parts info5
  refine wpList_append_own _ hgd s x 37 ho base 5 i0 (.int .u8 0) 1 1 Try.underlying37 hi hz0 hz1 hz2 rfl (by decide) v n xs hs (hown.alloc _) ⟨w.heap.size, 0, none⟩ 1 1 [.int .u8 d] hx rfl ?_ ?_ ?_ ?_ ?_ ?_
  · exact cell_one_new _ _ _
  · intro u hu; simp at hu; subst hu; rfl
  · unfold maxLen; omega
  · omega
  · simp; omega
  · intro v' w5 hown5 hg5 _
    exact h v' w5 hown5 ((Gr.alloc (Gr.refl _ _ _) _).trans (.of_append (hown.alloc _) hg5 (by simp)))

theorem wrongE_ok {last : Int} {e : Ev} (h : wrongE last e = 0) : (e.kind = 8 ∨ e.kind = 9 ∨ e.kind = 11 ∨ e.kind = 14 ∨ e.kind = 12) ∧ (0 ≤ e.ch ∧ e.ch ≤ 15) ∧ (0 ≤ e.a ∧ e.a < 128) ∧ (0 ≤ e.b ∧ e.b < 128) ∧ last ≤ e.at_ ∧ e.at_ - last < 268435456 := by
  unfold wrongE at h
  split at h
  · cases h
  · rename_i h0
    split at h
    · cases h
    · rename_i h1
      split at h
      · cases h
      · split at h
        · cases h
        · rename_i h2 h3
          unfold badE sevenB at h1
          simp only [not_or, Bool.and_eq_false_iff, decide_eq_false_iff_not] at h1
          unfold dataN at h0
          refine ⟨?_, ?_⟩
          · split at h0
            · omega
            · split at h0
              · omega
              · exact absurd rfl h0
          · omega

theorem or_st {k c : Int} (hk : k = 8 ∨ k = 9 ∨ k = 11 ∨ k = 14 ∨ k = 12) (h0 : 0 ≤ c) (h1 : c ≤ 15) : bits .or .i64 (k * 16) c = k * 16 + c := by
  obtain ⟨n, rfl⟩ : ∃ n : Nat, c = n := ⟨c.toNat, by omega⟩
  have hn : n < 16 := by omega
  have key : ∀ q : Fin 16, bits .or .i64 (8 * 16) (q.val : Int) = 8 * 16 + (q.val : Int) ∧ bits .or .i64 (9 * 16) (q.val : Int) = 9 * 16 + (q.val : Int) ∧ bits .or .i64 (11 * 16) (q.val : Int) = 11 * 16 + (q.val : Int) ∧
      bits .or .i64 (14 * 16) (q.val : Int) = 14 * 16 + (q.val : Int) ∧ bits .or .i64 (12 * 16) (q.val : Int) = 12 * 16 + (q.val : Int) := by decide +kernel
  obtain ⟨a1, a2, a3, a4, a5⟩ := key ⟨n, hn⟩
  rcases hk with rfl | rfl | rfl | rfl | rfl
  · exact a1
  · exact a2
  · exact a3
  · exact a4
  · exact a5

set_option maxHeartbeats 2000000 in
set_option maxRecDepth 100000 in
theorem pack_good (ao : Option Addr) (cap : Nat) (es : List Ev) (w : World) (hv : Evs w (.slice ao es.length cap) es) (hw : wrong es = 0) :
    Calls Try.prog 7 #[.slice ao es.length cap] w fun e w' => e = .returned (.tuple #[.string (strOf (packL 0 0 es)), .int .i64 0]) ∧ Hid (w.grownBy w' none) := by
  have A1 := Lib.hid (wrong_calls ao cap es w hv)
  obtain ⟨n, hn⟩ : ∃ n, es.length = n := ⟨_, rfl⟩
  have HN := Lib.hid hn
  have hbig : n ≤ 4096 := by
    unfold wrong at hw
    split at hw
    · cases hw
    · omega
  have HW : Hid (0 = wrongL 0 es) := by
    unfold wrong at hw
    rw [if_neg (by omega)] at hw
    exact hw.symm
  obtain ⟨bs, hbs⟩ : ∃ bs, packL 0 0 es = bs := ⟨_, rfl⟩
  have HP : Hid (bs = packL 0 0 es) := by unfold Hid; exact hbs.symm
  rw [hw, hn] at A1
  rw [hbs, hn]
  rw [hn] at hv
  have HV := Lib.hid hv
  clear hn hw hv hbs
  go_enter Try.func7, Try.ntmps7
  go_wp2_with (go_at_call 8; refine (A1.out).mono ?_; rintro e w1 ⟨rfl, hg1⟩; have HG1 := Lib.hid hg1; clear hg1)
  have HB := Lib.hid HG1.out.out.size
  go_loopw [5, 6, 7, 18] (fun v l s i wr => ∃ (k : Nat) (last st : Int) (acc : List Nat), k ≤ n ∧ i = .int .i64 k ∧ l = .int .i64 last ∧ s = .int .i64 st ∧ 0 ≤ last ∧ acc.length ≤ 7 * k ∧ Hid (0 = wrongL last (es.drop k)) ∧ Hid (bs = acc ++ packL last st (es.drop k)) ∧
    Hid (wr.ownsRow w.heap.size 5 1 v acc.length (acc.map byt)) ∧ Hid (Gr w.heap.size [5] w wr)) (fun _ _ _ i _ => n - (intOf i).toNat)
  case atStart => exact ⟨0, 0, 0, [], Nat.zero_le _, rfl, rfl, rfl, by omega, by simp, by simpa using HW, by simpa using HP, ⟨rfl, .inl ⟨rfl, rfl⟩⟩, .of_none HG1.out.out⟩
  case round =>
    obtain ⟨k, last, st, acc, hk, rfl, rfl, rfl, hl0, hacc, HR, HQ, HO, HG⟩ := hrel
    by_cases hlt : k < n
    · obtain ⟨e, hek⟩ : ∃ e, es[k]? = some e := ⟨es[k]'(by rw [HN.out]; exact hlt), List.getElem?_eq_getElem _⟩
      have hwe : wrongE last e = 0 := by
        rcases Decidable.em (wrongE last e = 0) with h | h
        · exact h
        · exact absurd ((wrongL_step hek HR.out).2 h).symm h
      have HR2 : Hid (0 = wrongL e.at_ (es.drop (k + 1))) := (wrongL_step hek HR.out).1 hwe
      have HQ2 : Hid (bs = (acc ++ packE last st e) ++ packL e.at_ (stE e) (es.drop (k + 1))) := packL_step hek HQ.out
      obtain ⟨hkind, ⟨q1, q2⟩, ⟨q3, q4⟩, ⟨q5, q6⟩, q7, q8⟩ := wrongE_ok hwe
      obtain ⟨b, off, rfl, hmax, hc⟩ : ∃ b off, ao = some ⟨b, off, none⟩ ∧ e.at_ ≤ 9223372036854775807 ∧ wr.rangeAt b (off + k * 5) e.cells := by
        rcases HV.out with ⟨b, off, cap', hh, hel⟩ | ⟨_, _, _, hnil⟩
        · simp only [Value.slice.injEq] at hh
          obtain ⟨cs, _, h2, rfl, h4⟩ := hel k e hek
          exact ⟨b, off, hh.1, h4, fun j v hj => HG.out.none.cell (by rw [Nat.add_assoc]; exact h2 j v hj) (by simp)⟩
        · subst hnil; simp at hek
      have c0 : wr.cell? ⟨b, off + k * 5, none⟩ = some (.int .i64 e.at_) := hc 0 _ rfl
      have c1 : wr.cell? ⟨b, off + k * 5 + 1, none⟩ = some (.int .i64 e.kind) := hc 1 _ rfl
      have c2 : wr.cell? ⟨b, off + k * 5 + 2, none⟩ = some (.int .i64 e.ch) := hc 2 _ rfl
      have c3 : wr.cell? ⟨b, off + k * 5 + 3, none⟩ = some (.int .i64 e.a) := hc 3 _ rfl
      have c4 : wr.cell? ⟨b, off + k * 5 + 4, none⟩ = some (.int .i64 e.b) := hc 4 _ rfl
      have hor := or_st hkind q1 q2
      obtain ⟨s, hs⟩ : ∃ s, stE e = s := ⟨_, rfl⟩
      obtain ⟨dn, hdn⟩ : ∃ dn, dataN e.kind = dn := ⟨_, rfl⟩
      have hdn2 : dn = 2 ∨ dn = 1 := by
        rw [← hdn]
        unfold dataN
        rcases hkind with h | h | h | h | h <;> simp [h]
      have hs2 : 128 ≤ s ∧ s < 256 := by rw [← hs]; unfold stE; omega
      obtain ⟨hs3, hs4⟩ := hs2
      obtain ⟨m, hm⟩ : ∃ m : Nat, e.at_ - last = (m : Int) := ⟨(e.at_ - last).toNat, by omega⟩
      have hmm : m < 268435456 := by omega
      have HPE : Hid (packE last st e = waitB m ++ ((if s = st then [] else [s.toNat]) ++ (e.a.toNat :: if dn = 2 then [e.b.toNat] else []))) := by
        unfold Hid packE
        rw [hs, hdn, hm, Int.toNat_natCast]
      have hkk : e.kind * 16 = s - e.ch := by rw [← hs]; unfold stE; omega
      have hlen := packE_len last st e
      have HLE : Hid ((acc ++ packE last st e).length ≤ 7 * (k + 1)) := by unfold Hid; rw [List.length_append]; omega
      rw [show e.kind * 16 + e.ch = s from by omega, hkk] at hor
      have hd := data_calls e.kind
      rw [hdn] at hd
      have HD := Lib.hid hd
      rw [hs] at HQ2
      clear hd hdn hs HR HQ hc hek hwe hlen
      obtain ⟨at_, kind, ch, a, b'⟩ := e
      simp only at hkind q1 q2 q3 q4 q5 q6 q7 q8 hmax c0 c1 c2 c3 c4 hor hm hkk HPE HD HR2 HQ2 HLE
      have hk0 : 0 ≤ kind ∧ kind ≤ 15 := by omega
      obtain ⟨hk0, hk1⟩ := hk0
      have hac : acc.length ≤ 28672 := by omega
      clear hkind
      have HGA : Hid (Gr w.heap.size [5] w (wr.alloc (.cells #[.int .i64 at_, .int .i64 kind, .int .i64 ch, .int .i64 a, .int .i64 b'] 36))) := HG.out.alloc _
      have HOA : Hid ((wr.alloc (.cells #[.int .i64 at_, .int .i64 kind, .int .i64 ch, .int .i64 a, .int .i64 b'] 36)).ownsRow w.heap.size 5 1 u5 acc.length (acc.map byt)) := HO.out.alloc _
      clear HG HO
      go_upto_region 9 with fail
      clear c0 c1 c2 c3 c4
      obtain ⟨g, hg⟩ : ∃ g, wr.heap.size = g := ⟨_, rfl⟩
      obtain ⟨wn, hwn⟩ : ∃ wn, wr.alloc (.cells #[.int .i64 at_, .int .i64 kind, .int .i64 ch, .int .i64 a, .int .i64 b'] 36) = wn := ⟨_, rfl⟩
      have hrow : wn.heap[g]? = some (.cells #[.int .i64 at_, .int .i64 kind, .int .i64 ch, .int .i64 a, .int .i64 b'] 36 (0, 0)) := by
        rw [← hwn, ← hg]; exact heap_alloc_new _ _
      have HROW := Lib.hid hrow
      have c0 : wn.cell? ⟨g, 0, none⟩ = some (.int .i64 at_) := cell_of hrow 0
      rw [hwn] at HGA HOA
      simp only [hg, hwn]
      clear hrow hwn hg
      have A2 := Lib.hid (wait_calls u5 acc.length m (acc.map byt) w.heap.size wn HOA.out HGA.out.size hmm (by omega))
      go_upto_region 10 with (go_at_call 14; refine (A2.out).mono ?_; rintro e1 w2 ⟨v2, rfl, HO2, HG2⟩)
      have HG2w : Hid (Gr w.heap.size [5] w w2) := HGA.out.trans HG2.out
      have HROW2 : Hid (w2.heap[g]? = some (.cells #[.int .i64 at_, .int .i64 kind, .int .i64 ch, .int .i64 a, .int .i64 b'] 36 (0, 0))) := HG2.out.keep HROW.out (by simp)
      clear A2 HGA HOA HG2 HROW c0
      have d0 : w2.cell? ⟨g, 0, none⟩ = some (.int .i64 at_) := cell_of HROW2.out 0
      have d1 : w2.cell? ⟨g, 1, none⟩ = some (.int .i64 kind) := cell_of HROW2.out 1
      have d2 : w2.cell? ⟨g, 2, none⟩ = some (.int .i64 ch) := cell_of HROW2.out 2
      have d3 : w2.cell? ⟨g, 3, none⟩ = some (.int .i64 a) := cell_of HROW2.out 3
      have hwl := waitB_len m
      obtain ⟨l2, hl2⟩ : ∃ l2, acc.length + (waitB m).length = l2 := ⟨_, rfl⟩
      have hl3 : l2 ≤ 28676 := by omega
      rw [hl2] at HO2
      have HL2 := Lib.hid hl2
      clear hl2 hwl
      go_upto_region 12 with fail
      obtain ⟨xs, hxs⟩ : ∃ xs, acc.map byt ++ (waitB m).map byt = xs := ⟨_, rfl⟩
      rw [hxs] at HO2
      have HXS := Lib.hid hxs
      clear hxs
      by_cases hst : s = st
      · subst hst
        have HG4B : Hid (w.heap.size ≤ w2.heap.size) := HG2w.out.size
        go_upto_region 16 with (at_builtin; refine append_byte rfl _ _ rfl w.heap.size v2 l2 xs rfl _ HO2.out rfl (by omega) HG4B.out ?_; intro v4 w4 HO4 HG4)
        have HG4w : Hid (Gr w.heap.size [5] w w4) := HG2w.out.trans HG4.out
        have HROW4 : Hid (w4.heap[g]? = some (.cells #[.int .i64 at_, .int .i64 kind, .int .i64 ch, .int .i64 a, .int .i64 b'] 36 (0, 0))) := HG4.out.keep HROW2.out (by simp)
        clear d0 d1 d2 d3 HG4
        have d1 : w4.cell? ⟨g, 1, none⟩ = some (.int .i64 kind) := cell_of HROW4.out 1
        have d4 : w4.cell? ⟨g, 4, none⟩ = some (.int .i64 b') := cell_of HROW4.out 4
        rcases hdn2 with rfl | rfl
        · have HG5B : Hid (w.heap.size ≤ w4.heap.size) := HG4w.out.size
          go_wp2_with (first
            | (go_at_call 15; refine (HD.out _).mono ?_; rintro e1 w9 ⟨rfl, rfl⟩)
            | (at_builtin; refine append_byte rfl _ _ rfl w.heap.size v4 (l2 + 1) (xs ++ [.int .u8 a]) rfl _ HO4.out rfl (by omega) HG5B.out ?_; intro v5 w5 HO5 HG5))
          have HG5w : Hid (Gr w.heap.size [5] w w5) := HG4w.out.trans HG5.out
          have HOX : Hid (w5.ownsRow w.heap.size 5 1 v5 (acc ++ packE last s ⟨at_, kind, ch, a, b'⟩).length ((acc ++ packE last s ⟨at_, kind, ch, a, b'⟩).map byt)) := by
            have h5 := HO5.out
            unfold Hid
            rw [HPE.out, if_pos trivial, if_pos trivial]
            rw [← HXS.out, ← HL2.out] at h5
            simpa [byt, Int.toNat_of_nonneg q3, Int.toNat_of_nonneg q5, Int.toNat_of_nonneg (show 0 ≤ s by omega), Nat.add_assoc] using h5
          go_roundw
          case rel => exact ⟨k + 1, at_, s, acc ++ packE last s ⟨at_, kind, ch, a, b'⟩, by omega, by go_num, rfl, rfl, by omega, HLE.out, HR2, HQ2, HOX, HG5w⟩
          case measure => simp [intOf]; omega
        · go_wp2_with (go_at_call 15; refine (HD.out _).mono ?_; rintro e1 w9 ⟨rfl, rfl⟩)
          have HOX : Hid (w4.ownsRow w.heap.size 5 1 v4 (acc ++ packE last s ⟨at_, kind, ch, a, b'⟩).length ((acc ++ packE last s ⟨at_, kind, ch, a, b'⟩).map byt)) := by
            have h5 := HO4.out
            unfold Hid
            rw [HPE.out, if_pos trivial, if_neg (by decide)]
            rw [← HXS.out, ← HL2.out] at h5
            simpa [byt, Int.toNat_of_nonneg q3, Int.toNat_of_nonneg (show 0 ≤ s by omega), Nat.add_assoc] using h5
          go_roundw
          case rel => exact ⟨k + 1, at_, s, acc ++ packE last s ⟨at_, kind, ch, a, b'⟩, by omega, by go_num, rfl, rfl, by omega, HLE.out, HR2, HQ2, HOX, HG4w⟩
          case measure => simp [intOf]; omega
      · have hst2 : (s == st) = false := by simpa using hst
        have HG3B : Hid (w.heap.size ≤ w2.heap.size) := HG2w.out.size
        go_upto_region 15 with (at_builtin; refine append_byte rfl _ _ rfl w.heap.size v2 l2 xs rfl _ HO2.out rfl (by omega) HG3B.out ?_; intro v3 w3 HO3 HG3)
        have HG3w : Hid (Gr w.heap.size [5] w w3) := HG2w.out.trans HG3.out
        have HROW3 : Hid (w3.heap[g]? = some (.cells #[.int .i64 at_, .int .i64 kind, .int .i64 ch, .int .i64 a, .int .i64 b'] 36 (0, 0))) := HG3.out.keep HROW2.out (by simp)
        clear d0 d1 d2 d3 HG3
        have d3 : w3.cell? ⟨g, 3, none⟩ = some (.int .i64 a) := cell_of HROW3.out 3
        have HG4B : Hid (w.heap.size ≤ w3.heap.size) := HG3w.out.size
        go_upto_region 16 with (at_builtin; refine append_byte rfl _ _ rfl w.heap.size v3 (l2 + 1) (xs ++ [.int .u8 s]) rfl _ HO3.out rfl (by omega) HG4B.out ?_; intro v4 w4 HO4 HG4)
        have HG4w : Hid (Gr w.heap.size [5] w w4) := HG3w.out.trans HG4.out
        have HROW4 : Hid (w4.heap[g]? = some (.cells #[.int .i64 at_, .int .i64 kind, .int .i64 ch, .int .i64 a, .int .i64 b'] 36 (0, 0))) := HG4.out.keep HROW3.out (by simp)
        clear d3 HG4
        have d1 : w4.cell? ⟨g, 1, none⟩ = some (.int .i64 kind) := cell_of HROW4.out 1
        have d4 : w4.cell? ⟨g, 4, none⟩ = some (.int .i64 b') := cell_of HROW4.out 4
        rcases hdn2 with rfl | rfl
        · have HG5B : Hid (w.heap.size ≤ w4.heap.size) := HG4w.out.size
          go_wp2_with (first
            | (go_at_call 15; refine (HD.out _).mono ?_; rintro e1 w9 ⟨rfl, rfl⟩)
            | (at_builtin; refine append_byte rfl _ _ rfl w.heap.size v4 ((l2 + 1) + 1) ((xs ++ [.int .u8 s]) ++ [.int .u8 a]) rfl _ HO4.out rfl (by omega) HG5B.out ?_; intro v5 w5 HO5 HG5))
          have HG5w : Hid (Gr w.heap.size [5] w w5) := HG4w.out.trans HG5.out
          have HOX : Hid (w5.ownsRow w.heap.size 5 1 v5 (acc ++ packE last st ⟨at_, kind, ch, a, b'⟩).length ((acc ++ packE last st ⟨at_, kind, ch, a, b'⟩).map byt)) := by
            have h5 := HO5.out
            unfold Hid
            rw [HPE.out, if_neg hst, if_pos trivial]
            rw [← HXS.out, ← HL2.out] at h5
            simpa [byt, Int.toNat_of_nonneg q3, Int.toNat_of_nonneg q5, Int.toNat_of_nonneg (show 0 ≤ s by omega), Nat.add_assoc] using h5
          go_roundw
          case rel => exact ⟨k + 1, at_, s, acc ++ packE last st ⟨at_, kind, ch, a, b'⟩, by omega, by go_num, rfl, rfl, by omega, HLE.out, HR2, HQ2, HOX, HG5w⟩
          case measure => simp [intOf]; omega
        · go_wp2_with (go_at_call 15; refine (HD.out _).mono ?_; rintro e1 w9 ⟨rfl, rfl⟩)
          have HOX : Hid (w4.ownsRow w.heap.size 5 1 v4 (acc ++ packE last st ⟨at_, kind, ch, a, b'⟩).length ((acc ++ packE last st ⟨at_, kind, ch, a, b'⟩).map byt)) := by
            have h5 := HO4.out
            unfold Hid
            rw [HPE.out, if_neg hst, if_neg (by decide)]
            rw [← HXS.out, ← HL2.out] at h5
            simpa [byt, Int.toNat_of_nonneg q3, Int.toNat_of_nonneg (show 0 ≤ s by omega), Nat.add_assoc] using h5
          go_roundw
          case rel => exact ⟨k + 1, at_, s, acc ++ packE last st ⟨at_, kind, ch, a, b'⟩, by omega, by go_num, rfl, rfl, by omega, HLE.out, HR2, HQ2, HOX, HG4w⟩
          case measure => simp [intOf]; omega
    · obtain rfl : k = n := by omega
      have hacc2 : bs = acc := by
        have h2 := HQ.out
        rw [List.drop_eq_nil_of_le (by rw [HN.out]; exact Nat.le_refl _)] at h2
        simpa [packL] using h2
      have hcv := str_of_own HO.out
      rw [← hacc2] at hcv
      have HG2 : Hid (w.grownBy wr none) := HG.out.none
      clear hacc2 HG HO HQ HR HP HW HV HB
      go_wp2_with fail
      go_ret2
      exact ⟨rfl, HG2⟩

def packS (es : List Ev) : ByteArray := if wrong es = 0 then strOf (packL 0 0 es) else ⟨#[]⟩

set_option maxHeartbeats 400000 in
set_option maxRecDepth 100000 in
theorem pack_calls (ao : Option Addr) (cap : Nat) (es : List Ev) (w : World) (hv : Evs w (.slice ao es.length cap) es) :
    Calls Try.prog 7 #[.slice ao es.length cap] w fun e w' => e = .returned (.tuple #[.string (packS es), .int .i64 (wrong es)]) ∧ Hid (w.grownBy w' none) := by
  by_cases hw : wrong es = 0
  · unfold packS
    rw [if_pos hw, hw]
    exact pack_good ao cap es w hv hw
  · unfold packS
    rw [if_neg hw]
    have A1 := Lib.hid (wrong_calls ao cap es w hv)
    obtain ⟨r, hr⟩ : ∃ r, wrong es = r := ⟨_, rfl⟩
    obtain ⟨n, hn⟩ : ∃ n, es.length = n := ⟨_, rfl⟩
    rw [hr, hn] at A1
    rw [hr] at hw
    rw [hr, hn]
    have hw2 : (r != 0) = true := by simpa using hw
    clear hr hv hn
    go_enter Try.func7, Try.ntmps7
    go_wp2_with (go_at_call 8; refine (A1.out).mono ?_; rintro e w1 ⟨rfl, hg1⟩; have HG1 := Lib.hid hg1; clear hg1)
    go_ret2
    exact ⟨rfl, HG1.out⟩

end Go.Proofs.Ytffdglhjfpnbpaa.WPack
