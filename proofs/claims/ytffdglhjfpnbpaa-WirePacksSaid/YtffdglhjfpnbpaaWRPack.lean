/- The reference's Pack. -/
import Derived.Test.YtffdglhjfpnbpaaWRWt
import Derived.Deep.QuietTactic
import Derived.IntWalk
import Derived.WalkSpells
namespace Go.Proofs.Ytffdglhjfpnbpaa.WRPack
open Go Go.RowKit Go.Proofs.Ytffdglhjfpnbpaa.WMod Go.Proofs.Ytffdglhjfpnbpaa.Opn Go.Proofs.Ytffdglhjfpnbpaa.Hp Go.Proofs.Ytffdglhjfpnbpaa.Rd Go.Proofs.Ytffdglhjfpnbpaa.WWrong Go.Proofs.Ytffdglhjfpnbpaa.WWait Go.Proofs.Ytffdglhjfpnbpaa.WPack Go.Proofs.Ytffdglhjfpnbpaa.WRWrong Go.Proofs.Ytffdglhjfpnbpaa.WRWt
set_option linter.unusedVariables false
set_option linter.unusedSimpArgs false

theorem strOf_app (a b : List Nat) : strOf a ++ strOf b = strOf (a ++ b) := by
  unfold strOf
  apply ByteArray.ext
  simp [ByteArray.data_append]

theorem strOf_size (l : List Nat) : (strOf l).size = l.length := by unfold strOf ByteArray.size; simp

/-- One byte, as a string. -/
theorem one_str (w : World) (d : Nat) : (convert 37 9 (.slice (some ⟨w.heap.size, 0, none⟩) 1 1)).run Try.prog (w.alloc (.cells #[.int .u8 d] 5)) = .ok (.string (strOf [d])) (w.alloc (.cells #[.int .u8 d] 5)) :=
  str_of_own (own_new (Nat.le_refl _) (byt d))

theorem row_al {w : World} {r : Nat} {x : Obj} (h : w.heap[r]? = some x) (o : Obj) : (w.alloc o).heap[r]? = some x := by
  rw [Below.heap_alloc _ _ _ (lt_of h)]
  exact h

/-- What is known of the one ahead. -/
def Prev (es : List Ev) (k : Nat) (last st : Int) : Prop := (k = 0 → last = 0 ∧ st = 0) ∧ (0 < k → ∃ e, es[k - 1]? = some e ∧ e.at_ = last ∧ stE e = st ∧ 0 ≤ e.ch ∧ e.ch ≤ 15)

theorem prev_next {es : List Ev} {k : Nat} {e : Ev} (h : es[k]? = some e) (h0 : 0 ≤ e.ch) (h1 : e.ch ≤ 15) : Prev es (k + 1) e.at_ (stE e) := ⟨fun h => by omega, fun _ => ⟨e, by rw [Nat.add_sub_cancel]; exact h, rfl, rfl, h0, h1⟩⟩

set_option maxHeartbeats 4000000 in
set_option maxRecDepth 100000 in
theorem rpack_good (ao : Option Addr) (cap : Nat) (es : List Ev) (w : World) (hv : Evs w (.slice ao es.length cap) es) (hw : wrong es = 0) :
    Calls Try.prog 10 #[.slice ao es.length cap] w fun e w' => e = .returned (.tuple #[.string (strOf (packL 0 0 es)), .int .i64 0]) ∧ Hid (w.grownBy w' none) := by
  have A1 := Lib.hid (rwrong_calls ao cap es w hv)
  obtain ⟨n, hn⟩ : ∃ n, es.length = n := ⟨_, rfl⟩
  have HN := Lib.hid hn
  have hbig : n ≤ 4096 := by
    unfold wrong at hw
    split at hw
    · cases hw
    · omega
  have HW : Hid (0 = wrongL 0 es) := by
    unfold wrong at hw
    rw [if_neg (by omega)] at hw
    exact hw.symm
  obtain ⟨bs, hbs⟩ : ∃ bs, packL 0 0 es = bs := ⟨_, rfl⟩
  have HP : Hid (bs = packL 0 0 es) := by unfold Hid; exact hbs.symm
  rw [hw, hn] at A1
  rw [hbs, hn]
  rw [hn] at hv
  have HV := Lib.hid hv
  have HE0 : Hid (strOf [] = (⟨#[]⟩ : ByteArray)) := rfl
  clear hn hw hv hbs
  go_enter Try.func10, Try.ntmps10
  go_wp2_with (go_at_call 9; refine (A1.out).mono ?_; rintro e w1 ⟨rfl, hg1⟩; have HG1 := Lib.hid hg1.out; clear hg1)
  go_loopw [5, 17] (fun v i wr => ∃ (k : Nat) (last st : Int) (acc : List Nat), k ≤ n ∧ i = .int .i64 k ∧ v = .string (strOf acc) ∧ 0 ≤ last ∧ acc.length ≤ 7 * k ∧ Hid (Prev es k last st) ∧ Hid (0 = wrongL last (es.drop k)) ∧ Hid (bs = acc ++ packL last st (es.drop k)) ∧
    Hid (w.grownBy wr none)) (fun _ i _ => n - (intOf i).toNat)
  case atStart => exact ⟨0, 0, 0, [], Nat.zero_le _, rfl, rfl, by omega, by simp, ⟨fun _ => ⟨rfl, rfl⟩, fun h => by omega⟩, by simpa using HW, by simpa using HP, HG1⟩
  case round =>
    obtain ⟨k, last, st, acc, hk, rfl, rfl, hl0, hacc, HL, HR, HQ, HG⟩ := hrel
    by_cases hlt : k < n
    · obtain ⟨e, hek⟩ : ∃ e, es[k]? = some e := ⟨es[k]'(by rw [HN.out]; exact hlt), List.getElem?_eq_getElem _⟩
      have hwe : wrongE last e = 0 := by
        rcases Decidable.em (wrongE last e = 0) with h | h
        · exact h
        · exact absurd ((wrongL_step hek HR.out).2 h).symm h
      have HR2 : Hid (0 = wrongL e.at_ (es.drop (k + 1))) := (wrongL_step hek HR.out).1 hwe
      have HQ2 : Hid (bs = (acc ++ packE last st e) ++ packL e.at_ (stE e) (es.drop (k + 1))) := packL_step hek HQ.out
      obtain ⟨hkind, ⟨q1, q2⟩, ⟨q3, q4⟩, ⟨q5, q6⟩, q7, q8⟩ := wrongE_ok hwe
      have HLN := Lib.hid (prev_next hek q1 q2)
      obtain ⟨b, off, rfl, hmax, hc⟩ : ∃ b off, ao = some ⟨b, off, none⟩ ∧ e.at_ ≤ 9223372036854775807 ∧ wr.rangeAt b (off + k * 5) e.cells := by
        rcases HV.out with ⟨b, off, cap', hh, hel⟩ | ⟨_, _, _, hnil⟩
        · simp only [Value.slice.injEq] at hh
          obtain ⟨cs, _, h2, rfl, h4⟩ := hel k e hek
          exact ⟨b, off, hh.1, h4, fun j v hj => HG.out.cell (by rw [Nat.add_assoc]; exact h2 j v hj) (by simp)⟩
        · subst hnil; simp at hek
      have HPV : Hid (0 < k → ∃ e' : Ev, e'.at_ = last ∧ stE e' = st ∧ 0 ≤ e'.ch ∧ e'.ch ≤ 15 ∧ wr.rangeAt b (off + (k - 1) * 5) e'.cells) := by
        intro hk0
        obtain ⟨e', he', h1, h2, h3, h4⟩ := HL.out.2 hk0
        refine ⟨e', h1, h2, h3, h4, ?_⟩
        rcases HV.out with ⟨b', off', cap', hh, hel⟩ | ⟨_, _, _, hnil⟩
        · simp only [Value.slice.injEq, Option.some.injEq, Addr.mk.injEq, and_true] at hh
          obtain ⟨⟨rfl, rfl⟩, _⟩ := hh
          obtain ⟨cs, _, h2, rfl, h4⟩ := hel (k - 1) e' he'
          exact fun j v hj => HG.out.cell (by rw [Nat.add_assoc]; exact h2 j v hj) (by simp)
        · subst hnil; simp at hek
      have c0 : wr.cell? ⟨b, off + k * 5, none⟩ = some (.int .i64 e.at_) := hc 0 _ rfl
      have c1 : wr.cell? ⟨b, off + k * 5 + 1, none⟩ = some (.int .i64 e.kind) := hc 1 _ rfl
      have c2 : wr.cell? ⟨b, off + k * 5 + 2, none⟩ = some (.int .i64 e.ch) := hc 2 _ rfl
      have c3 : wr.cell? ⟨b, off + k * 5 + 3, none⟩ = some (.int .i64 e.a) := hc 3 _ rfl
      have c4 : wr.cell? ⟨b, off + k * 5 + 4, none⟩ = some (.int .i64 e.b) := hc 4 _ rfl
      obtain ⟨s, hs⟩ : ∃ s, stE e = s := ⟨_, rfl⟩
      obtain ⟨dn, hdn⟩ : ∃ dn, dataN e.kind = dn := ⟨_, rfl⟩
      have hdn2 : dn = 2 ∨ dn = 1 := by
        rw [← hdn]
        unfold dataN
        rcases hkind with h | h | h | h | h <;> simp [h]
      have hs2 : 128 ≤ s ∧ s < 256 := by rw [← hs]; unfold stE; omega
      obtain ⟨hs3, hs4⟩ := hs2
      obtain ⟨m, hm⟩ : ∃ m : Nat, e.at_ - last = (m : Int) := ⟨(e.at_ - last).toNat, by omega⟩
      have hmm : m < 268435456 := by omega
      have HPE : Hid (packE last st e = waitB m ++ ((if s = st then [] else [s.toNat]) ++ (e.a.toNat :: if dn = 2 then [e.b.toNat] else []))) := by
        unfold Hid packE
        rw [hs, hdn, hm, Int.toNat_natCast]
      have hlen := packE_len last st e
      have HLE : Hid ((acc ++ packE last st e).length ≤ 7 * (k + 1)) := by unfold Hid; rw [List.length_append]; omega
      have HS : Hid (16 * e.kind + e.ch = s) := by unfold Hid; rw [← hs]; unfold stE; omega
      have hd := rdata_calls e.kind
      rw [hdn] at hd
      have HD := Lib.hid hd
      have HTOLD : Hid (0 < k → ∃ e' : Ev, e'.at_ = last ∧ wr.rangeAt b (off + (k - 1) * 5) e'.cells ∧ (s = st ↔ e'.kind = e.kind ∧ e'.ch = e.ch)) := by
        intro hk0
        obtain ⟨e', h1, h2, h3, h4, h5⟩ := HPV.out hk0
        refine ⟨e', h1, h5, ?_⟩
        rw [← hs, ← h2]
        unfold stE
        omega
      have HST0 : Hid (k = 0 → last = 0 ∧ st = 0) := HL.out.1
      rw [hs] at HQ2 HLN
      clear hd hdn hs HR HQ HL hc hek hwe hlen HPV
      obtain ⟨at_, kind, ch, a, b'⟩ := e
      simp only at hkind q1 q2 q3 q4 q5 q6 q7 q8 hmax c0 c1 c2 c3 c4 hm HPE HD HR2 HQ2 HLE HS HTOLD HLN
      have hk0 : 8 ≤ kind ∧ kind ≤ 14 := by omega
      obtain ⟨hk0, hk1⟩ := hk0
      obtain ⟨s0, hs0⟩ : ∃ s0 : Nat, s = (s0 : Int) := ⟨s.toNat, by omega⟩
      obtain ⟨a0, rfl⟩ : ∃ a0 : Nat, a = (a0 : Int) := ⟨a.toNat, by omega⟩
      obtain ⟨b0, rfl⟩ : ∃ b0 : Nat, b' = (b0 : Int) := ⟨b'.toNat, by omega⟩
      subst hs0
      clear hkind
      have HGA : Hid (w.grownBy (wr.alloc (.cells #[.int .i64 at_, .int .i64 kind, .int .i64 ch, .int .i64 a0, .int .i64 b0] 36)) none) := grown_alloc HG.out _
      go_upto_region 9 with fail
      clear c0 c1 c2 c3 c4
      obtain ⟨g, hg⟩ : ∃ g, wr.heap.size = g := ⟨_, rfl⟩
      obtain ⟨wn, hwn⟩ : ∃ wn, wr.alloc (.cells #[.int .i64 at_, .int .i64 kind, .int .i64 ch, .int .i64 a0, .int .i64 b0] 36) = wn := ⟨_, rfl⟩
      have hrow : wn.heap[g]? = some (.cells #[.int .i64 at_, .int .i64 kind, .int .i64 ch, .int .i64 a0, .int .i64 b0] 36 (0, 0)) := by
        rw [← hwn, ← hg]; exact heap_alloc_new _ _
      have HROW := Lib.hid hrow
      have c0 : wn.cell? ⟨g, 0, none⟩ = some (.int .i64 at_) := cell_of hrow 0
      have c1 : wn.cell? ⟨g, 1, none⟩ = some (.int .i64 kind) := cell_of hrow 1
      have c2 : wn.cell? ⟨g, 2, none⟩ = some (.int .i64 ch) := cell_of hrow 2
      have HTN : Hid (0 < k → ∃ e' : Ev, e'.at_ = last ∧ wn.rangeAt b (off + (k - 1) * 5) e'.cells ∧ ((s0 : Int) = st ↔ e'.kind = kind ∧ e'.ch = ch)) := by
        intro hk0
        obtain ⟨e', h1, h2, h3⟩ := HTOLD.out hk0
        refine ⟨e', h1, fun j v hj => ?_, h3⟩
        rw [← hwn]
        exact grown_cell (grown_alloc (grown_refl _ none) _) (h2 j v hj) (by simp)
      rw [hwn] at HGA
      simp only [hg, hwn]
      clear hrow hwn hg HTOLD
      go_upto_if 23 with fail
      go_cut [8, 9, 17] from 17 to 89 (fun v8 v9 v17 wx => v8 = .int .i64 last ∧ v9 = .bool (decide ((s0 : Int) = st)) ∧ v17 = .int .i64 (k : Int) ∧ ∃ nq, wx = wn.drewN nq)
      case first =>
        clear HGA HQ2 HR2 HLE HPE HLN HD HG HV HROW hm hmm hacc
        by_cases hk0 : k = 0
        · subst hk0
          obtain ⟨rfl, rfl⟩ := HST0.out rfl
          have hf : decide ((s0 : Int) = 0) = false := decide_eq_false (by omega)
          have HF := Lib.hid hf
          clear HTN HST0 hf
          go_wp2_with fail
          go_meet
          exact ⟨rfl, by rw [HF.out], rfl, 0, rfl⟩
        obtain ⟨k1, rfl⟩ : ∃ k1, k = k1 + 1 := ⟨k - 1, by omega⟩
        obtain ⟨e', h1, h2, h3⟩ := HTN.out (by omega)
        rw [Nat.add_sub_cancel] at h2
        have p0 : wn.cell? ⟨b, off + k1 * 5, none⟩ = some (.int .i64 last) := by have := h2 0 _ rfl; rw [h1] at this; exact this
        have p1 : wn.cell? ⟨b, off + k1 * 5 + 1, none⟩ = some (.int .i64 e'.kind) := h2 1 _ rfl
        have p2 : wn.cell? ⟨b, off + k1 * 5 + 2, none⟩ = some (.int .i64 e'.ch) := h2 2 _ rfl
        obtain ⟨kk, hkk⟩ : ∃ x, e'.kind = x := ⟨_, rfl⟩
        obtain ⟨cc, hcc⟩ : ∃ x, e'.ch = x := ⟨_, rfl⟩
        rw [hkk] at p1 h3
        rw [hcc] at p2 h3
        have e1 : IntKind.i64.wrap (((k1 + 1 : Nat) : Int) - 1) = (k1 : Int) := by rw [IntWalk.i64_in _ (by omega)]; omega
        clear h1 h2 hkk hcc HTN HST0
        by_cases t1 : kk = kind
        · by_cases t2 : cc = ch
          · have hf : decide ((s0 : Int) = st) = true := decide_eq_true (h3.2 ⟨t1, t2⟩)
            have HF := Lib.hid hf
            subst t1 t2
            clear h3 hf
            go_wp2_with fail
            go_quiet (fail)
            go_wp2_with fail
            go_meet
            exact ⟨rfl, by rw [HF.out], rfl, _, rfl⟩
          · have hf : decide ((s0 : Int) = st) = false := decide_eq_false (fun h => t2 (h3.1 h).2)
            have HF := Lib.hid hf
            have t3 : (cc == ch) = false := by simpa using t2
            subst t1
            clear h3 hf
            go_wp2_with fail
            go_quiet (fail)
            go_wp2_with fail
            go_meet
            exact ⟨rfl, by rw [HF.out], rfl, _, rfl⟩
        · have hf : decide ((s0 : Int) = st) = false := decide_eq_false (fun h => t1 (h3.1 h).1)
          have HF := Lib.hid hf
          have t3 : (kk == kind) = false := by simpa using t1
          clear h3 hf
          go_wp2_with fail
          go_quiet (fail)
          go_wp2_with fail
          go_meet
          exact ⟨rfl, by rw [HF.out], rfl, _, rfl⟩
      case rest =>
        obtain ⟨rfl, rfl, rfl, nq, hwc⟩ := hcut
        obtain ⟨wq, hwq⟩ : ∃ wq, wn.drewN nq = wq := ⟨_, rfl⟩
        have HROWQ : Hid (wq.heap[g]? = some (.cells #[.int .i64 at_, .int .i64 kind, .int .i64 ch, .int .i64 a0, .int .i64 b0] 36 (0, 0))) := by rw [← hwq]; exact HROW
        have HGQ : Hid (w.grownBy wq none) := by rw [← hwq]; exact grown_drewN HGA.out _
        rw [hwc, hwq]
        clear hwq hwc HROW HGA c0 c1 c2 HTN HST0
        have c0 : wq.cell? ⟨g, 0, none⟩ = some (.int .i64 at_) := cell_of HROWQ.out 0
        have A2 := Lib.hid (rwt_calls m wq hmm)
        have z1 : (strOf acc).size ≤ 28672 := by rw [strOf_size]; omega
        have z2 : (strOf (waitB m)).size ≤ 4 := by rw [strOf_size]; exact waitB_len m
        go_upto_region 13 with (go_at_call 18; refine (A2.out).mono ?_; rintro e1 w2 ⟨v2, rfl, HO2, HG2⟩; have hcv := str_of_own HO2.out)
        have HROWw2 : Hid (w2.heap[g]? = some (.cells #[.int .i64 at_, .int .i64 kind, .int .i64 ch, .int .i64 a0, .int .i64 b0] 36 (0, 0))) := Gr.keep (B := wq.heap.size) (S := []) (Gr.of_none HG2.out) HROWQ.out (by simp)
        have HGw2 : Hid (w.grownBy w2 none) := grown_trans HGQ.out HG2.out
        rw [strOf_app]
        obtain ⟨acc2, hacc2⟩ : ∃ acc2, acc ++ waitB m = acc2 := ⟨_, rfl⟩
        have HAC := Lib.hid hacc2
        rw [hacc2]
        have z3 : (strOf acc2).size ≤ 28676 := by rw [strOf_size, ← hacc2, List.length_append]; have := waitB_len m; omega
        clear c0 hcv hacc2 HO2 z1 z2 HROWQ HGQ A2
        by_cases hst : (s0 : Int) = st
        · simp only [hst, decide_true]
          have hcvw2 := one_str w2 a0
          have hw8a0 := wrap_u8 a0
          rw [Nat.mod_eq_of_lt (by omega)] at hw8a0
          have ya0 : (strOf [a0]).size ≤ 1 := by rw [strOf_size]; simp
          have kw23 : w2.cell? ⟨g, 3, none⟩ = some (.int .i64 a0) := cell_of HROWw2.out 3
          go_upto_region 16 with fail
          rw [strOf_app]
          obtain ⟨w4, hw4⟩ : ∃ w4, w2.alloc (.cells #[.int .u8 (a0 : Int)] 5) = w4 := ⟨_, rfl⟩
          have HROWw4 : Hid (w4.heap[g]? = some (.cells #[.int .i64 at_, .int .i64 kind, .int .i64 ch, .int .i64 a0, .int .i64 b0] 36 (0, 0))) := by rw [← hw4]; exact row_al HROWw2.out _
          have HGw4 : Hid (w.grownBy w4 none) := by rw [← hw4]; exact grown_alloc HGw2.out _
          obtain ⟨acc4, hAacc4⟩ : ∃ acc4, acc2 ++ [a0] = acc4 := ⟨_, rfl⟩
          have Hacc4 := Lib.hid hAacc4
          have zacc4 : (strOf acc4).size ≤ 28678 := by rw [strOf_size, ← hAacc4, List.length_append, ← strOf_size acc2]; simp; omega
          rw [hAacc4, hw4]
          clear hw4 hAacc4 hcvw2 hw8a0 ya0 z3
          clear kw23
          have kw41 : w4.cell? ⟨g, 1, none⟩ = some (.int .i64 kind) := cell_of HROWw4.out 1
          have kw44 : w4.cell? ⟨g, 4, none⟩ = some (.int .i64 b0) := cell_of HROWw4.out 4
          rcases hdn2 with rfl | rfl
          · have hcvw4 := one_str w4 b0
            have hw8b0 := wrap_u8 b0
            rw [Nat.mod_eq_of_lt (by omega)] at hw8b0
            have yb0 : (strOf [b0]).size ≤ 1 := by rw [strOf_size]; simp

            go_wp2_with (go_at_call 17; refine (HD.out _).mono ?_; rintro e1 w9 ⟨rfl, rfl⟩)
            rw [strOf_app]
            obtain ⟨w5, hw5⟩ : ∃ w5, w4.alloc (.cells #[.int .u8 (b0 : Int)] 5) = w5 := ⟨_, rfl⟩
            have HROWw5 : Hid (w5.heap[g]? = some (.cells #[.int .i64 at_, .int .i64 kind, .int .i64 ch, .int .i64 a0, .int .i64 b0] 36 (0, 0))) := by rw [← hw5]; exact row_al HROWw4.out _
            have HGw5 : Hid (w.grownBy w5 none) := by rw [← hw5]; exact grown_alloc HGw4.out _
            obtain ⟨acc5, hAacc5⟩ : ∃ acc5, acc4 ++ [b0] = acc5 := ⟨_, rfl⟩
            have Hacc5 := Lib.hid hAacc5
            have zacc5 : (strOf acc5).size ≤ 28679 := by rw [strOf_size, ← hAacc5, List.length_append, ← strOf_size acc4]; simp; omega
            rw [hAacc5, hw5]
            clear hw5 hAacc5 hcvw4 hw8b0 yb0 zacc4
            have HXA : Hid (acc5 = acc ++ packE last st ⟨at_, kind, ch, a0, b0⟩) := by
              unfold Hid
              rw [HPE.out, if_pos hst, if_pos trivial]
              simp [← Hacc5.out, ← Hacc4.out, ← HAC.out, List.append_assoc]
            rw [HXA.out]
            go_wp2_with fail
            go_roundw
            case rel => exact ⟨k + 1, at_, _, _, by omega, by go_num, rfl, by omega, HLE.out, HLN, HR2, HQ2, HGw5⟩
            case measure => simp [intOf]; omega
          · go_wp2_with (go_at_call 17; refine (HD.out _).mono ?_; rintro e1 w9 ⟨rfl, rfl⟩)
            have HXA : Hid (acc4 = acc ++ packE last st ⟨at_, kind, ch, a0, b0⟩) := by
              unfold Hid
              rw [HPE.out, if_pos hst, if_neg (by decide)]
              simp [← Hacc4.out, ← HAC.out, List.append_assoc]
            rw [HXA.out]
            go_wp2_with fail
            go_roundw
            case rel => exact ⟨k + 1, at_, _, _, by omega, by go_num, rfl, by omega, HLE.out, HLN, HR2, HQ2, HGw4⟩
            case measure => simp [intOf]; omega
        · simp only [hst, decide_false]
          have hs16 := HS.out
          have hcvw2 := one_str w2 s0
          have hw8s0 := wrap_u8 s0
          rw [Nat.mod_eq_of_lt (by omega)] at hw8s0
          have ys0 : (strOf [s0]).size ≤ 1 := by rw [strOf_size]; simp
          have kw21 : w2.cell? ⟨g, 1, none⟩ = some (.int .i64 kind) := cell_of HROWw2.out 1
          have kw22 : w2.cell? ⟨g, 2, none⟩ = some (.int .i64 ch) := cell_of HROWw2.out 2
          go_upto_region 15 with fail
          rw [strOf_app]
          obtain ⟨w3, hw3⟩ : ∃ w3, w2.alloc (.cells #[.int .u8 (s0 : Int)] 5) = w3 := ⟨_, rfl⟩
          have HROWw3 : Hid (w3.heap[g]? = some (.cells #[.int .i64 at_, .int .i64 kind, .int .i64 ch, .int .i64 a0, .int .i64 b0] 36 (0, 0))) := by rw [← hw3]; exact row_al HROWw2.out _
          have HGw3 : Hid (w.grownBy w3 none) := by rw [← hw3]; exact grown_alloc HGw2.out _
          obtain ⟨acc3, hAacc3⟩ : ∃ acc3, acc2 ++ [s0] = acc3 := ⟨_, rfl⟩
          have Hacc3 := Lib.hid hAacc3
          have zacc3 : (strOf acc3).size ≤ 28677 := by rw [strOf_size, ← hAacc3, List.length_append, ← strOf_size acc2]; simp; omega
          rw [hAacc3, hw3]
          clear hw3 hAacc3 hcvw2 hw8s0 ys0 z3 hs16
          clear kw21 kw22
          have hcvw3 := one_str w3 a0
          have hw8a0 := wrap_u8 a0
          rw [Nat.mod_eq_of_lt (by omega)] at hw8a0
          have ya0 : (strOf [a0]).size ≤ 1 := by rw [strOf_size]; simp
          have kw33 : w3.cell? ⟨g, 3, none⟩ = some (.int .i64 a0) := cell_of HROWw3.out 3
          go_upto_region 16 with fail
          rw [strOf_app]
          obtain ⟨w4, hw4⟩ : ∃ w4, w3.alloc (.cells #[.int .u8 (a0 : Int)] 5) = w4 := ⟨_, rfl⟩
          have HROWw4 : Hid (w4.heap[g]? = some (.cells #[.int .i64 at_, .int .i64 kind, .int .i64 ch, .int .i64 a0, .int .i64 b0] 36 (0, 0))) := by rw [← hw4]; exact row_al HROWw3.out _
          have HGw4 : Hid (w.grownBy w4 none) := by rw [← hw4]; exact grown_alloc HGw3.out _
          obtain ⟨acc4, hAacc4⟩ : ∃ acc4, acc3 ++ [a0] = acc4 := ⟨_, rfl⟩
          have Hacc4 := Lib.hid hAacc4
          have zacc4 : (strOf acc4).size ≤ 28678 := by rw [strOf_size, ← hAacc4, List.length_append, ← strOf_size acc3]; simp; omega
          rw [hAacc4, hw4]
          clear hw4 hAacc4 hcvw3 hw8a0 ya0 zacc3
          clear kw33
          have kw41 : w4.cell? ⟨g, 1, none⟩ = some (.int .i64 kind) := cell_of HROWw4.out 1
          have kw44 : w4.cell? ⟨g, 4, none⟩ = some (.int .i64 b0) := cell_of HROWw4.out 4
          rcases hdn2 with rfl | rfl
          · have hcvw4 := one_str w4 b0
            have hw8b0 := wrap_u8 b0
            rw [Nat.mod_eq_of_lt (by omega)] at hw8b0
            have yb0 : (strOf [b0]).size ≤ 1 := by rw [strOf_size]; simp

            go_wp2_with (go_at_call 17; refine (HD.out _).mono ?_; rintro e1 w9 ⟨rfl, rfl⟩)
            rw [strOf_app]
            obtain ⟨w5, hw5⟩ : ∃ w5, w4.alloc (.cells #[.int .u8 (b0 : Int)] 5) = w5 := ⟨_, rfl⟩
            have HROWw5 : Hid (w5.heap[g]? = some (.cells #[.int .i64 at_, .int .i64 kind, .int .i64 ch, .int .i64 a0, .int .i64 b0] 36 (0, 0))) := by rw [← hw5]; exact row_al HROWw4.out _
            have HGw5 : Hid (w.grownBy w5 none) := by rw [← hw5]; exact grown_alloc HGw4.out _
            obtain ⟨acc5, hAacc5⟩ : ∃ acc5, acc4 ++ [b0] = acc5 := ⟨_, rfl⟩
            have Hacc5 := Lib.hid hAacc5
            have zacc5 : (strOf acc5).size ≤ 28679 := by rw [strOf_size, ← hAacc5, List.length_append, ← strOf_size acc4]; simp; omega
            rw [hAacc5, hw5]
            clear hw5 hAacc5 hcvw4 hw8b0 yb0 zacc4
            have HXA : Hid (acc5 = acc ++ packE last st ⟨at_, kind, ch, a0, b0⟩) := by
              unfold Hid
              rw [HPE.out, if_neg hst, if_pos trivial]
              simp [← Hacc5.out, ← Hacc4.out, ← Hacc3.out, ← HAC.out, List.append_assoc]
            rw [HXA.out]
            go_wp2_with fail
            go_roundw
            case rel => exact ⟨k + 1, at_, _, _, by omega, by go_num, rfl, by omega, HLE.out, HLN, HR2, HQ2, HGw5⟩
            case measure => simp [intOf]; omega
          · go_wp2_with (go_at_call 17; refine (HD.out _).mono ?_; rintro e1 w9 ⟨rfl, rfl⟩)
            have HXA : Hid (acc4 = acc ++ packE last st ⟨at_, kind, ch, a0, b0⟩) := by
              unfold Hid
              rw [HPE.out, if_neg hst, if_neg (by decide)]
              simp [← Hacc4.out, ← Hacc3.out, ← HAC.out, List.append_assoc]
            rw [HXA.out]
            go_wp2_with fail
            go_roundw
            case rel => exact ⟨k + 1, at_, _, _, by omega, by go_num, rfl, by omega, HLE.out, HLN, HR2, HQ2, HGw4⟩
            case measure => simp [intOf]; omega
    · obtain rfl : k = n := by omega
      have hacc2 : bs = acc := by
        have h2 := HQ.out
        rw [List.drop_eq_nil_of_le (by rw [HN.out]; exact Nat.le_refl _)] at h2
        simpa [packL] using h2
      have HX := Lib.hid hacc2
      clear hacc2 HQ HR HP HW HV
      go_wp2_with fail
      go_ret2
      exact ⟨by rw [HX.out]; rfl, HG⟩

end Go.Proofs.Ytffdglhjfpnbpaa.WRPack
