/- Takes on one disk, step by step: the walk. -/
import Derived.Test.YtdnmimfichijgaaKOpen
import Derived.Deep.CutRange
namespace Go.Proofs.Ytdnmimfichijgaa.KTake
open Go Go.RowKit Go.Proofs.Ytdnmimfichijgaa.KMod Go.Proofs.Ytdnmimfichijgaa.KTk Go.Proofs.Ytdnmimfichijgaa.KRead Go.Proofs.Ytdnmimfichijgaa.KCells Go.Proofs.Ytdnmimfichijgaa.KDisk Go.Proofs.Ytdnmimfichijgaa.KNext Go.Proofs.Ytdnmimfichijgaa.KTones Go.Proofs.Ytdnmimfichijgaa.KDo Go.Proofs.Ytdnmimfichijgaa.KOpen Go.Proofs.Ytdnmimfichijgaa.App Go.Proofs.Ytdnmimfichijgaa.Hp Go.Proofs.Ytdnmimfichijgaa.Rd Go.Proofs.Ytdnmimfichijgaa.Opn
set_option linter.unusedVariables false
set_option linter.unusedSimpArgs false

def stC (p : Stp) : List Value := [.bool p.open_, .int .i64 p.e.do_, .int .i64 p.e.n, .int .i64 p.e.t.at_, .int .i64 p.e.t.long, .int .i64 p.e.t.lt, .int .i64 p.e.t.al, .int .i64 p.e.t.oc, .int .i64 p.power, .int .i64 p.poke, .int .i64 p.word]
/-- What came of a step, and where its line lies. -/
def tnC (y : Tn × Value) : List Value := [.int .i64 y.1.err, .int .i64 y.1.terr, y.2]
/-- All that came of the steps lies in v. -/
structure OutR (w : World) (B : Nat) (A : Nat → Prop) (v : Value) (ys : List (Tn × Value)) : Prop where
  own : w.ownsRow B 32 3 v ys.length (flC tnC ys)
  ts : ∀ y ∈ ys, TosA w A y.2 y.1.ts
  sl : ∀ y ∈ ys, ∃ ao n c, y.2 = .slice ao n c

theorem sla_live {w : World} {A : Nat → Prop} {v : Value} {xs : List Tone} (h : TosA w A v xs) : TosA w (fun b => A b ∧ b < w.heap.size) v xs := by
  rcases h with ⟨b, off, cap, ha, rfl, h⟩ | h
  · cases xs with
    | nil => exact .inr ⟨_, _, rfl, rfl⟩
    | cons x xs =>
      refine .inl ⟨b, off, cap, ⟨ha, ?_⟩, rfl, h⟩
      have h0 := h 0 x rfl 0 _ rfl
      rcases Nat.lt_or_ge b w.heap.size with hb | hb
      · exact hb
      · unfold World.cell? at h0
        rw [Array.getElem?_eq_none (by exact hb)] at h0
        cases h0
  · exact .inr h

theorem fr_trans2 {X Y : Nat → Prop} {a b c : World} (h : Fr X a b) (k : Fr Y b c) (hy : ∀ i, Y i → X i ∨ a.heap.size ≤ i) : Fr X a c :=
  ⟨k.os.trans h.os, k.tape.trans h.tape, k.output.trans h.output, Nat.le_trans h.size k.size, fun i hi hx => (k.block i (Nat.lt_of_lt_of_le hi h.size) (fun e => (hy i e).elim hx (fun e2 => by omega))).trans (h.block i hi hx)⟩

theorem wrap64_range (x : Int) : -9223372036854775808 ≤ IntKind.i64.wrap x ∧ IntKind.i64.wrap x < 9223372036854775808 := by
  rw [IntKind.wrap_i64]
  omega

theorem wrap_eq64 (x : Int) : IntKind.i64.wrap x = wrap64 x := by
  first
    | exact IntKind.wrap_i64 x
    | (rw [IntKind.wrap_i64]; unfold wrap64; omega)

theorem info2 : (Try.prog.info? 2).map (fun i => (i.zero, i.size, i.bytes)) = some (some (.int .i64 0), 1, 8) := by kernel_rfl
theorem info32 : (Try.prog.info? 32).map (fun i => (i.zero, i.size, i.bytes)) = some (some (.agg #[.int .i64 0, .int .i64 0, .slice none 0 0]), 3, 40) := by kernel_rfl

theorem wpM_store {P : Program} {ops : Array Oper} {C : World → Prop} {B : Nat → Bool} {Q : Act → World → Prop} {k : Nat} {o : Oper} {rest : List Oper} {a : Act} {w : World} (hw : Region.wanted o (yielded ops a.tmps) = true) (hB : B k = true) (w' : World)
    (hr : (execOp a.eval o).run P w = .ok .skip w') (hc : C w') (h : Mixed.wpM P ops C B Q (k + 1) rest (a.put o.dst undef) w') : Mixed.wpM P ops C B Q k (o :: rest) a w := by
  refine Mixed.wpM_big hw hB ?_
  unfold Mixed.bigAt
  rw [hr]
  exact ⟨hc, h⟩

theorem run_nil (t : Tk) (d : Dk) : runK t d [] = ([], d) := rfl
theorem run_cons (t : Tk) (d : Dk) (p : Stp) (r : List Stp) : runK t d (p :: r) = ((stepK t d p).2.2 :: (runK (stepK t d p).1 (stepK t d p).2.1 r).1, (runK (stepK t d p).1 (stepK t d p).2.1 r).2) := rfl

theorem dk_ils {w : World} {db wb cap : Nat} {sa : Option Addr} {d : Dk} (h : DkR w db wb sa cap d) : Ils w (.slice sa d.words.length cap) d.words := by
  rcases h.row with h1 | ⟨h1, hn, cur, h2, h3⟩
  · exact .inr ⟨sa, cap, by rw [h1]; rfl, h1⟩
  · refine .inl ⟨wb, 0, cap, by rw [h1], fun i x hx => ⟨.int .i64 x, ?_, rfl⟩⟩
    rw [Nat.zero_add, cell_of h2]
    exact h3 i x hx

theorem td_power {l : Int} {Z : Nat → Prop} {w : World} {tb db wb cap : Nat} {sa : Option Addr} {t : Tk} {d : Dk} (h : TD Z w tb db wb sa cap t d) (hd : DkR (w.setCell ⟨db, 1, none⟩ (.int .i64 l)) db wb sa cap ⟨d.words, l⟩) : TD Z (w.setCell ⟨db, 1, none⟩ (.int .i64 l)) tb db wb sa cap t ⟨d.words, l⟩ :=
  ⟨h.t.fr (X := fun b => b = db) (fr_set (X := fun b => b = db) (p := ⟨db, 1, none⟩) (Fr.refl _ _) (.inl rfl) _) (fun b hb => by subst hb; exact ⟨.inl (.inr (.inl rfl)), fun e => h.ne.1 e.symm⟩), hd, h.ne, by rw [size_set]; exact h.lt, fun b hb => by rw [size_set]; exact h.hz b hb⟩
theorem td_words {Z : Nat → Prop} {w w' : World} {tb db wb cap : Nat} {sa : Option Addr} {t : Tk} {d d' : Dk} (h : TD Z w tb db wb sa cap t d) (hf : Fr (fun b => b = wb) w w') (hd : DkR w' db wb sa cap d') : TD Z w' tb db wb sa cap t d' :=
  ⟨h.t.fr hf (fun b hb => by subst hb; exact ⟨.inl (.inr (.inr rfl)), fun e => h.ne.2 e.symm⟩), hd, h.ne, Nat.lt_of_lt_of_le h.lt hf.size, fun b hb => Nat.lt_of_lt_of_le (h.hz b hb) hf.size⟩

theorem vs_live {w : World} {A : Nat → Prop} {v : Value} {vss : List (List Tone)} (h : VsR w A v vss) (h0 : 0 < vss.length) : VsR w (fun b => A b ∧ b < w.heap.size) v vss := by
  obtain ⟨b, cap, us, h1, h2, h3, h4, h5, h6⟩ := h
  refine ⟨b, cap, us, h1, h2, ⟨h3, ?_⟩, h4, h5, fun i u l hu hl => sla_live (h6 i u l hu hl)⟩
  have hc := h5 0 (us[0]'(by omega)) (List.getElem?_eq_getElem _)
  rcases Nat.lt_or_ge b w.heap.size with hb | hb
  · exact hb
  · unfold World.cell? at hc
    rw [Array.getElem?_eq_none (by exact hb)] at hc
    cases hc

/-- The same take, other blocks left out: old ones of these, or new ones. -/
theorem td_more {Z Z' : Nat → Prop} {w w' : World} {tb db wb cap : Nat} {sa : Option Addr} {t : Tk} {d : Dk} (h : TD Z w tb db wb sa cap t d) (hg : w.grownBy w' none) (h1 : ∀ b, Z' b → Z b ∨ w.heap.size ≤ b) (h2 : ∀ b, Z' b → b < w'.heap.size) : TD Z' w' tb db wb sa cap t d := by
  obtain ⟨vsl, hst, hvs⟩ := h.t.ex
  have hl : 0 < t.s.vs.length := Nat.lt_of_le_of_lt (Nat.zero_le _) h.t.good.s.at_
  refine ⟨⟨⟨vsl, row_kept hg hst (by simp), ((vs_live hvs hl).mono (fun b hb => (⟨hb.1.1, fun hz => (h1 b hz).elim hb.1.2 (fun hz2 => by have := hb.2; omega)⟩ : AZ Z' tb db wb b))).grown hg⟩, h.t.good⟩, h.d.grown hg, h.ne, Nat.lt_of_lt_of_le h.lt hg.size, h2⟩

theorem td_turn {Y Z Z' : Nat → Prop} {w w' : World} {tb db wb cap : Nat} {sa : Option Addr} {t : Tk} {d : Dk} (h : TD Z w tb db wb sa cap t d) (hf : Fr Y w w') (hY : ∀ b, Y b → Z b ∧ ¬ XT tb db wb b) (h1 : ∀ b, Z' b → Z b ∨ w.heap.size ≤ b) (h2 : ∀ b, Z' b → b < w'.heap.size) : TD Z' w' tb db wb sa cap t d := by
  obtain ⟨vsl, hst, hvs⟩ := h.t.ex
  have hl : 0 < t.s.vs.length := Nat.lt_of_le_of_lt (Nat.zero_le _) h.t.good.s.at_
  refine ⟨⟨⟨vsl, hf.row hst (fun hb => (hY _ hb).2 (.inl rfl)), ((vs_live hvs hl).fr hf (fun b hb hy => hb.1.2 (hY b hy).1)).mono (fun b hb => (⟨hb.1.1, fun hz => (h1 b hz).elim hb.1.2 (fun hz2 => by have := hb.2; omega)⟩ : AZ Z' tb db wb b))⟩, h.t.good⟩, h.d.fr hf (fun b hb hx => (hY b hb).2 (hx.elim (fun h => .inr (.inl h)) (fun h => .inr (.inr h)))), h.ne, Nat.lt_of_lt_of_le h.lt hf.size, h2⟩

theorem step_eq (t : Tk) (d : Dk) (p : Stp) (L1 : Int) (d2 : Dk) (t1 t2 : Tk) (d3 : Dk) (er : Int) (h1 : (if p.power ≠ 0 then IntKind.i64.wrap (p.power - 1) else d.left) = L1) (h2 : (if 0 < p.poke ∧ p.poke ≤ (d.words.length : Int) then (⟨d.words.set (p.poke - 1).toNat p.word, L1⟩ : Dk) else ⟨d.words, L1⟩) = d2)
    (h3 : (if p.open_ = true then openT d2.words else t) = t1) (h4 : (if p.e.do_ ≠ 0 then doT t1 d2 p.e else (t1, d2, 0)) = (t2, d3, er)) : stepK t d p = (t2, d3, ⟨er, lerrT t2, lineT t2⟩) := by
  unfold stepK
  simp only [h1, h2, h3, h4]
  unfold tonesT lerrT lineT
  split <;> rfl

/-- The disk behind new power. -/
theorem dk_power {w : World} {db wb cap : Nat} {sa : Option Addr} {d : Dk} (h : DkR w db wb sa cap d) (l : Int) (hl : -9223372036854775808 ≤ l ∧ l < 9223372036854775808) : DkR (w.setCell ⟨db, 1, none⟩ (.int .i64 l)) db wb sa cap ⟨d.words, l⟩ := by
  refine ⟨?_, ?_, hl, h.small, by rw [size_set]; exact h.lt⟩
  · exact set_self h.st _
  · rcases h.row with h1 | ⟨h1, hn, cur, h2, h3⟩
    · exact .inl h1
    · exact .inr ⟨h1, hn, cur, by rw [set_other (by exact fun e => hn e.symm)]; exact h2, h3⟩

set_option maxHeartbeats 8000000 in
set_option maxRecDepth 100000 in
theorem take_calls (wa sa : Option Addr) (wc sc : Nat) (ws : List Int) (ps : List Stp) (w : World) (hw : Ils w (.slice wa ws.length wc) ws) (hp : SlA 11 stC w AnyB (.slice sa ps.length sc) ps) (hwb : ws.length ≤ 17592186044416) (hpb : ps.length * 88 ≤ 140737488355328) :
    Calls Try.prog 7 #[.slice wa ws.length wc, .slice sa ps.length sc] w
      fun r w' => ∃ v ao n c ys, r = .returned (.tuple #[v, .slice ao n c, .bool true]) ∧ Hid (ys.map Prod.fst = (runK (openT ws) ⟨ws, -1⟩ ps).1) ∧ Hid (OutR w' w.heap.size AnyB v ys) ∧ Hid (n = ws.length ∧ Ils w' (.slice ao n c) (runK (openT ws) ⟨ws, -1⟩ ps).2.words) ∧ Hid (w.grownBy w' none) := by
  obtain ⟨RR, hRR⟩ : ∃ RR, runK (openT ws) ⟨ws, -1⟩ ps = RR := ⟨_, rfl⟩
  have HRR := Lib.hid hRR
  rw [hRR]
  clear hRR
  have HW := Lib.hid hw
  have HP := Lib.hid hp
  obtain ⟨ln, hln⟩ : ∃ ln, ws.length = ln := ⟨_, rfl⟩
  have HLN := Lib.hid hln
  obtain ⟨n, hn⟩ : ∃ n, ps.length = n := ⟨_, rfl⟩
  have HN := Lib.hid hn
  rw [hln] at HW hwb ⊢
  rw [hn] at HP hpb ⊢
  clear hw hp hln hn
  obtain ⟨i0, hi0, hz0, hz1, hz2⟩ := info_parts info2
  have HEMP : Hid ((w.alloc (.cells #[] 2)).ownsRow w.heap.size 2 1 (.slice (some ⟨w.heap.size, 0, none⟩) 0 0) 0 []) := ⟨rfl, .inr ⟨w.heap.size, 0, #[], rfl, Nat.le_refl _, heap_alloc_new _ _, Nat.le_refl _, Nat.zero_le _, rfl, rfl⟩⟩
  have HGA : Hid (w.grownBy (w.alloc (.cells #[] 2)) none) := grown_alloc (grown_refl _ _) _
  have HWA := Lib.hid (HW.out.grown HGA.out)
  have hnb : (n : Int) ≤ 1599289640401 := by omega
  have HOC : Hid (∀ u ∈ ws.map (Value.int .i64), u.oneCell' = true) := by
    intro u hu
    rw [List.mem_map] at hu
    obtain ⟨x, _, rfl⟩ := hu
    rfl
  have HNW : Hid (∀ (j : Nat) (u : Value), (ws.map (Value.int .i64))[j]? = some u → ∃ b off, wa = some ⟨b, off, none⟩ ∧ (w.alloc (.cells #[] 2)).cell? ⟨b, off + j, none⟩ = some u) := by
    intro j u hu
    rw [List.getElem?_map] at hu
    cases hx : ws[j]? with
    | none => rw [hx] at hu; cases hu
    | some x =>
      rw [hx] at hu
      simp at hu
      obtain ⟨ao, c, he, hh⟩ := sl_open HWA.out
      simp only [Value.slice.injEq] at he
      obtain ⟨rfl, _, _⟩ := he
      obtain ⟨b, off, u2, h1, h2, h3⟩ := hh j x hx
      rw [h3, hu] at h2
      exact ⟨b, off, h1, h2⟩
  go_enter Try.func7, Try.ntmps7
  go_upto_region 2 with (at_builtin; refine append_in rfl _ _ 22 rfl w.heap.size 2 i0 (.int .i64 0) 8 Try.underlying22 hi0 hz0 hz1 hz2 rfl (.slice (some ⟨w.heap.size, 0, none⟩) 0 0) 0 [] rfl HEMP.out wa ln wc (ws.map (.int .i64)) rfl (by rw [List.length_map]; exact HLN.out) HNW.out HOC.out (by unfold maxLen; omega) (by omega) HGA.out.size ?_; intro v1 w1 ho1 hg1 hb1; obtain ⟨sa1, cap1, rfl⟩ := own_slice ho1)
  have HG1 : Hid (w.grownBy w1 none) := grown_own HGA.out HEMP.out (Nat.le_refl _) hg1
  have HO1 : Hid (w1.ownsRow w.heap.size 2 1 (.slice sa1 ln cap1) ln (ws.map (.int .i64))) := by
    have h := ho1
    rw [List.nil_append, Nat.zero_add] at h
    exact h
  clear ho1 hg1 hb1 HOC HNW HEMP HGA HWA hi0 hz0 hz1 hz2
  obtain ⟨db, hdb⟩ : ∃ db, w1.heap.size = db := ⟨_, rfl⟩
  have HDBE := Lib.hid hdb
  clear hdb
  simp only [HDBE.out]
  obtain ⟨w2, hw2⟩ : ∃ w2, w1.alloc (.cells #[.slice sa1 ln cap1, .int .i64 (-1), .bool false] 52) = w2 := ⟨_, rfl⟩
  have HG2 : Hid (w.grownBy w2 none) := by unfold Hid; rw [← hw2]; exact grown_alloc HG1.out _
  have HDB : Hid (w.heap.size ≤ db) := by have h := HG1.out.size; rw [HDBE.out] at h; exact h
  obtain ⟨wb, HWB, HDK⟩ : ∃ wb, Hid (w.heap.size ≤ wb) ∧ Hid (DkR w2 db wb sa1 cap1 ⟨ws, -1⟩) := by
    have hst : w2.heap[db]? = some (.cells #[.slice sa1 ws.length cap1, .int .i64 (-1), .bool false] 52 (0, 0)) := by
      rw [HLN.out, ← hw2, ← HDBE.out]
      exact heap_alloc_new _ _
    have hsm : (⟨ws, -1⟩ : Dk).words.length < 1152921504606846976 := by simp only; rw [HLN.out]; omega
    by_cases h0 : ln = 0
    · refine ⟨db, HDB.out, hst, .inl (List.eq_nil_of_length_eq_zero (by rw [HLN.out]; exact h0)), ⟨by simp, by simp⟩, hsm, lt_of hst⟩
    · obtain ⟨g, cur, rfl, hB, hg, hnc, _, hsz, hc⟩ := own_row HO1.out (by omega)
      have hg2 : w2.heap[g]? = some (.cells cur 2 (0, 0)) := by rw [← hw2]; exact row_kept (grown_alloc (grown_refl w1 none) _) hg (by simp)
      refine ⟨g, hB, hst, .inr ⟨rfl, ?_, cur, hg2, fun i x hx => ?_⟩, ⟨by simp, by simp⟩, hsm, lt_of hg2⟩
      · have := lt_of hg
        have := HDBE.out
        unfold Hid at this
        omega
      · simp only at hx
        rw [hc i (by have := (List.getElem?_eq_some_iff.1 hx).1; rw [HLN.out] at this; omega), List.getElem?_map, hx]
        rfl
  simp only [hw2]
  clear hw2 HO1
  have OC := Lib.hid (open_calls (fun b => (Value.slice none 0 0).ownBlock = some b) db wb cap1 sa1 ⟨ws, -1⟩ w2 HDK.out (fun _ h => by cases h))
  simp only at OC
  go_upto_region 5 with (go_at_call 14; refine (OC.out).mono ?_; rintro ez w3 ⟨tb0, rfl, htb3, htd3, hg3⟩)
  obtain ⟨w3, rfl⟩ : ∃ w3' : World, w3' = w3 := ⟨_, rfl⟩
  have HG3 : Hid (w.grownBy w3 none) := grown_trans HG2.out hg3.out
  have HTB0 : Hid (w.heap.size ≤ tb0) := Nat.le_trans HG2.out.size htb3.out
  have HTD0 := Lib.hid htd3.out
  have HOUT0 : Hid (OutR w3 w.heap.size (AZ (fun b => (Value.slice none 0 0).ownBlock = some b) tb0 db wb) (.slice none 0 0) []) := ⟨World.ownsRow_nil _ _ _ _, fun y hy => by simp at hy, fun y hy => by simp at hy⟩
  have HR0 : Hid (RR = (([] : List (Tn × Value)).map Prod.fst ++ (runK (openT ws) ⟨ws, -1⟩ (ps.drop 0)).1, (runK (openT ws) ⟨ws, -1⟩ (ps.drop 0)).2)) := HRR.out.symm
  have HL0 : Hid ((⟨ws, -1⟩ : Dk).words.length = ln) := HLN.out
  clear hg3 htb3 htd3 OC
  go_loopw [8, 9, 23] (fun v8 v9 v23 wr => ∃ (k tb : Nat) (t : Tk) (d : Dk) (ys : List (Tn × Value)) (oa : Option Addr) (oc : Nat), k ≤ n ∧ v8 = .pointer (some ⟨tb, 0, none⟩) ∧ v9 = .slice oa k oc ∧ v23 = .int .i64 (k : Int) ∧ Hid (ys.length = k) ∧ Hid (d.words.length = ln) ∧ Hid (RR = (ys.map Prod.fst ++ (runK t d (ps.drop k)).1, (runK t d (ps.drop k)).2)) ∧ Hid (w.heap.size ≤ tb) ∧ Hid (∀ b, v9.ownBlock = some b → ¬ XT tb db wb b) ∧ Hid (TD (fun b => v9.ownBlock = some b) wr tb db wb sa1 cap1 t d) ∧ Hid (OutR wr w.heap.size (AZ (fun b => v9.ownBlock = some b) tb db wb) v9 ys) ∧ Hid (w.grownBy wr none)) (fun _ _ v23 _ => n - (intOf v23).toNat)
  case atStart => exact ⟨0, tb0, _, _, [], none, 0, Nat.zero_le _, rfl, rfl, rfl, rfl, HL0.out, HR0.out, HTB0.out, (fun b hb => by cases hb), HTD0.out, HOUT0.out, HG3.out⟩
  case round =>
    obtain ⟨k, tb, t, d, ys, oa, oc, hk, rfl, rfl, rfl, HYL, HDL, HR, HTB, HZX, HTD, HOUT, HG⟩ := hrel
    obtain ⟨wz, hwz⟩ : ∃ wz : World, wz = wr := ⟨_, rfl⟩
    subst hwz
    clear HR0 HTB0 HTD0 HOUT0 HG3 HL0 HDK
    by_cases hkn : k = n
    · have HF : Hid (RR = (ys.map Prod.fst, d)) := by
        unfold Hid
        rw [HR.out, List.drop_of_length_le (by rw [HN.out]; omega), run_nil, List.append_nil]
      have hst := HTD.out.d.st
      rw [HDL.out] at hst
      have p0 := cell_of hst 0
      have p2 := cell_of hst 2
      clear hst
      have hk2 := hkn.symm
      subst hk2
      clear hkn
      go_wp2_with fail
      go_quiet (fail)
      go_wp2_with fail
      go_ret3
      refine ⟨_, _, _, _, ys, rfl, by unfold Hid; rw [HF.out], ⟨own_kept HOUT.out.own (grown_drewN (grown_refl _ _) _), fun y hy => ((HOUT.out.ts y hy).mono (fun _ _ => trivial)).grown (grown_drewN (grown_refl _ _) _), HOUT.out.sl⟩, ⟨rfl, ?_⟩, grown_drewN HG.out _⟩
      have hi := dk_ils HTD.out.d
      rw [HDL.out] at hi
      rw [HF.out]
      exact hi.grown (grown_drewN (grown_refl _ _) _)
    · have hkl : (k : Int) < (n : Int) := by omega
      obtain ⟨p, hp⟩ : ∃ p, ps[k]? = some p := ⟨ps[k]'(by rw [HN.out]; omega), List.getElem?_eq_getElem _⟩
      obtain ⟨b, off, rfl, _, hrg⟩ := sla_at HP.out hp
      have HRK : Hid (RR = (ys.map Prod.fst ++ ((stepK t d p).2.2 :: (runK (stepK t d p).1 (stepK t d p).2.1 (ps.drop (k + 1))).1), (runK (stepK t d p).1 (stepK t d p).2.1 (ps.drop (k + 1))).2)) := by
        unfold Hid
        obtain ⟨hi, he⟩ := List.getElem?_eq_some_iff.1 hp
        rw [HR.out, List.drop_eq_getElem_cons hi, he, run_cons]
      clear HR hp
      obtain ⟨OP, ⟨D, N, ⟨ta, tl, tt, tal, to_⟩⟩, PW, PK, WD⟩ := p
      have e0 : wz.cell? ⟨b, off + k * 11, none⟩ = some (.bool OP) := grown_cell HG.out (hrg 0 _ rfl) (by simp)
      have e1 : wz.cell? ⟨b, off + k * 11 + 1, none⟩ = some (.int .i64 D) := grown_cell HG.out (hrg 1 _ rfl) (by simp)
      have e2 : wz.cell? ⟨b, off + k * 11 + 2, none⟩ = some (.int .i64 N) := grown_cell HG.out (hrg 2 _ rfl) (by simp)
      have e3 : wz.cell? ⟨b, off + k * 11 + 3, none⟩ = some (.int .i64 ta) := grown_cell HG.out (hrg 3 _ rfl) (by simp)
      have e4 : wz.cell? ⟨b, off + k * 11 + 4, none⟩ = some (.int .i64 tl) := grown_cell HG.out (hrg 4 _ rfl) (by simp)
      have e5 : wz.cell? ⟨b, off + k * 11 + 5, none⟩ = some (.int .i64 tt) := grown_cell HG.out (hrg 5 _ rfl) (by simp)
      have e6 : wz.cell? ⟨b, off + k * 11 + 6, none⟩ = some (.int .i64 tal) := grown_cell HG.out (hrg 6 _ rfl) (by simp)
      have e7 : wz.cell? ⟨b, off + k * 11 + 7, none⟩ = some (.int .i64 to_) := grown_cell HG.out (hrg 7 _ rfl) (by simp)
      have e8 : wz.cell? ⟨b, off + k * 11 + 8, none⟩ = some (.int .i64 PW) := grown_cell HG.out (hrg 8 _ rfl) (by simp)
      have e9 : wz.cell? ⟨b, off + k * 11 + 9, none⟩ = some (.int .i64 PK) := grown_cell HG.out (hrg 9 _ rfl) (by simp)
      have e10 : wz.cell? ⟨b, off + k * 11 + 10, none⟩ = some (.int .i64 WD) := grown_cell HG.out (hrg 10 _ rfl) (by simp)
      clear hrg
      go_upto_region 8 with fail
      obtain ⟨sb, hsb⟩ : ∃ sb, wz.heap.size = sb := ⟨_, rfl⟩
      have HSB := Lib.hid hsb
      obtain ⟨xb, hxb⟩ : ∃ xb, sb + 1 = xb := ⟨_, rfl⟩
      have HXB := Lib.hid hxb
      clear hsb hxb
      simp only [HSB.out, HXB.out]
      obtain ⟨w4, hw4⟩ : ∃ w4, (wz.alloc (.cells #[.bool OP, .int .i64 D, .int .i64 N, .int .i64 ta, .int .i64 tl, .int .i64 tt, .int .i64 tal, .int .i64 to_, .int .i64 PW, .int .i64 PK, .int .i64 WD] 44)).alloc (.cells #[.int .i64 0, .int .i64 0, .slice none 0 0] 32) = w4 := ⟨_, rfl⟩
      have HG4 : Hid (wz.grownBy w4 none) := by unfold Hid; rw [← hw4]; exact grown_alloc (grown_alloc (grown_refl _ _) _) _
      have HS4 : Hid (w4.heap[sb]? = some (.cells #[.bool OP, .int .i64 D, .int .i64 N, .int .i64 ta, .int .i64 tl, .int .i64 tt, .int .i64 tal, .int .i64 to_, .int .i64 PW, .int .i64 PK, .int .i64 WD] 44 (0, 0))) := by
        unfold Hid
        rw [← hw4]
        exact row_kept (grown_alloc (grown_refl (wz.alloc (.cells #[.bool OP, .int .i64 D, .int .i64 N, .int .i64 ta, .int .i64 tl, .int .i64 tt, .int .i64 tal, .int .i64 to_, .int .i64 PW, .int .i64 PK, .int .i64 WD] 44)) none) _) (by rw [← HSB.out]; exact heap_alloc_new _ _) (by simp)
      have HX4 : Hid (w4.heap[xb]? = some (.cells #[.int .i64 0, .int .i64 0, .slice none 0 0] 32 (0, 0))) := by
        have hz : (wz.alloc (.cells #[.bool OP, .int .i64 D, .int .i64 N, .int .i64 ta, .int .i64 tl, .int .i64 tt, .int .i64 tal, .int .i64 to_, .int .i64 PW, .int .i64 PK, .int .i64 WD] 44)).heap.size = xb := by rw [← HXB.out, ← HSB.out]; simp
        unfold Hid
        rw [← hw4, ← hz]
        exact heap_alloc_new _ _
      simp only [hw4]
      clear hw4 e0 e1 e2 e3 e4 e5 e6 e7 e8 e9 e10
      obtain ⟨Z, hZ⟩ : ∃ Z : Nat → Prop, Z = fun b => (Value.slice oa k oc).ownBlock = some b ∨ b = xb := ⟨_, rfl⟩
      have HZ : Hid (∀ b, Z b ↔ ((Value.slice oa k oc).ownBlock = some b ∨ b = xb)) := fun b => by rw [hZ]
      clear hZ
      have HTD4 : Hid (TD Z w4 tb db wb sa1 cap1 t d) := td_more HTD.out HG4.out (fun b hb => ((HZ.out b).1 hb).elim .inl (fun e => .inr (by have h1 := HSB.out; have h2 := HXB.out; unfold Hid at h1 h2; omega))) (fun b hb => ((HZ.out b).1 hb).elim (fun h => Nat.lt_of_lt_of_le (HTD.out.hz b h) HG4.out.size) (fun e => by rw [e]; exact lt_of HX4.out))
      have HLT : Hid (tb < sb ∧ db < sb ∧ wb < sb) := ⟨by rw [← HSB.out]; exact HTD.out.lt, by rw [← HSB.out]; exact lt_of HTD.out.d.st, by rw [← HSB.out]; exact HTD.out.d.lt⟩
      obtain ⟨XX, hXX⟩ : ∃ XX : Nat → Prop, XX = fun b => b = tb ∨ b = db ∨ b = wb ∨ b = xb := ⟨_, rfl⟩
      have HXX : Hid (∀ b, XX b ↔ (b = tb ∨ b = db ∨ b = wb ∨ b = xb)) := fun b => by rw [hXX]
      have hsx : ¬ XX sb := fun h => by
        have h1 := HLT.out
        have h2 := HXB.out
        unfold Hid at h2
        rcases (HXX.out sb).1 h with h | h | h | h <;> omega
      have HSX := Lib.hid hsx
      clear hXX hsx
      obtain ⟨L1, hL1⟩ : ∃ L1, (if PW ≠ 0 then IntKind.i64.wrap (PW - 1) else d.left) = L1 := ⟨_, rfl⟩
      have HL1 := Lib.hid hL1
      clear hL1
      have s2 := cell_of HS4.out 8
      have d1 := cell_of HTD4.out.d.st 1
      have zd1 := free_of HTD4.out.d.st 1
      go_upto_if 29 with fail
      go_cut [29] from 27 to 90 (fun c wx => Hid (TD Z wx tb db wb sa1 cap1 t ⟨d.words, L1⟩) ∧ Hid (wx.heap[xb]? = some (.cells #[.int .i64 0, .int .i64 0, .slice none 0 0] 32 (0, 0))) ∧ Hid (Fr XX w4 wx))
      case first =>
        by_cases hp : PW = 0
        · have HE : Hid (L1 = d.left) := by unfold Hid; rw [← HL1.out, if_neg (by simp [hp])]
          subst hp
          go_wp2_with fail
          go_meet
          exact ⟨by rw [HE.out]; exact HTD4.out, HX4.out, Fr.refl _ _⟩
        · have HE : Hid (L1 = wrap64 (PW - 1)) := by unfold Hid; rw [← HL1.out, if_pos hp]; exact wrap_eq64 _
          have HP1 := Lib.hid (dk_power HTD4.out.d (wrap64 (PW - 1)) (by rw [← wrap_eq64]; exact wrap64_range (PW - 1)))
          go_wp2_with fail
          go_meet
          exact ⟨by rw [HE.out]; exact td_power HTD4.out HP1.out, by unfold Hid; rw [set_other (by have h1 := HLT.out; have h2 := HXB.out; unfold Hid at h2; show xb ≠ db; omega)]; exact HX4.out, fr_set (Fr.refl _ _) (.inl ((HXX.out _).2 (.inr (.inl rfl)))) _⟩
      obtain ⟨HTD5, HX5, HF5⟩ := hcut
      obtain ⟨w5, hw5⟩ : ∃ w5 : World, w5 = wc := ⟨_, rfl⟩
      subst hw5
      clear s2 d1 zd1
      have hs5 := HF5.out.row HS4.out HSX.out
      have s3 := cell_of hs5 9
      have s4 := cell_of hs5 10
      have HS5 := Lib.hid hs5
      clear hs5
      have hd5 : (⟨d.words, L1⟩ : Dk).words.length = ln := HDL.out
      have hst5 := HTD5.out.d.st
      rw [hd5] at hst5
      have d0 := cell_of hst5 0
      clear hst5 hd5
      obtain ⟨d2, hd2⟩ : ∃ d2 : Dk, (if 0 < PK ∧ PK ≤ (ln : Int) then (⟨d.words.set (PK - 1).toNat WD, L1⟩ : Dk) else ⟨d.words, L1⟩) = d2 := ⟨_, rfl⟩
      have HD2 := Lib.hid hd2
      clear hd2
      go_upto_region 10 with fail
      go_cut [48] from 27 to 90 (fun c wx => c = .bool (decide (0 < PK ∧ PK ≤ (ln : Int))) ∧ Hid (∃ nq, wx = w5.drewN nq))
      case first =>
        by_cases hp : 0 < PK
        rotate_left
        · have hpb : decide (0 < PK) = false := decide_eq_false hp
          go_quiet (fail)
          go_wp2_with fail
          go_meet
          exact ⟨congrArg Value.bool (decide_eq_false (fun h => absurd h.1 (by omega))).symm, ⟨_, rfl⟩⟩
        have hpb : decide (0 < PK) = true := decide_eq_true hp
        by_cases hq : PK ≤ (ln : Int)
        · have hqb : decide (PK ≤ (ln : Int)) = true := decide_eq_true hq
          go_quiet (fail)
          go_wp2_with fail
          go_meet
          exact ⟨congrArg Value.bool (decide_eq_true (p := 0 < PK ∧ PK ≤ (ln : Int)) ⟨hp, hq⟩).symm, ⟨_, rfl⟩⟩
        · have hqb : decide (PK ≤ (ln : Int)) = false := decide_eq_false hq
          go_quiet (fail)
          go_wp2_with fail
          go_meet
          exact ⟨congrArg Value.bool (decide_eq_false (fun h => absurd h.2 (by omega))).symm, ⟨_, rfl⟩⟩
      obtain ⟨rfl, hwc⟩ := hcut
      obtain ⟨nq, hwc2⟩ := hwc.out
      have HTD5q : Hid (TD Z wc tb db wb sa1 cap1 t ⟨d.words, L1⟩) := by unfold Hid; rw [hwc2]; exact HTD5.out.grown (grown_drewN (grown_refl _ _) _)
      have HX5q : Hid (wc.heap[xb]? = some (.cells #[.int .i64 0, .int .i64 0, .slice none 0 0] 32 (0, 0))) := by unfold Hid; rw [hwc2]; exact HX5.out
      have HF5q : Hid (Fr XX w4 wc) := by unfold Hid; rw [hwc2]; exact fr_drewN HF5.out _
      have HS5q : Hid (wc.heap[sb]? = some (.cells #[.bool OP, .int .i64 D, .int .i64 N, .int .i64 ta, .int .i64 tl, .int .i64 tt, .int .i64 tal, .int .i64 to_, .int .i64 PW, .int .i64 PK, .int .i64 WD] 44 (0, 0))) := by unfold Hid; rw [hwc2]; exact HS5.out
      obtain ⟨wd, hwd⟩ : ∃ wd : World, wd = wc := ⟨_, rfl⟩
      subst hwd
      clear hwc hwc2 HTD5 HX5 HF5 HS5 s3 s4 d0
      go_upto_if 48 with fail
      go_cut [48] from 27 to 90 (fun c wx => Hid (TD Z wx tb db wb sa1 cap1 t d2) ∧ Hid (wx.heap[xb]? = some (.cells #[.int .i64 0, .int .i64 0, .slice none 0 0] 32 (0, 0))) ∧ Hid (Fr XX w4 wx))
      case first =>
        by_cases hpq : 0 < PK ∧ PK ≤ (ln : Int)
        rotate_left
        · have HE : Hid (d2 = ⟨d.words, L1⟩) := by unfold Hid; rw [← HD2.out, if_neg hpq]
          have hpb : decide (0 < PK ∧ PK ≤ (ln : Int)) = false := decide_eq_false hpq
          simp only [hpb]
          go_wp2_with fail
          go_meet
          exact ⟨by rw [HE.out]; exact HTD5q.out, HX5q.out, HF5q.out⟩
        have hpb : decide (0 < PK ∧ PK ≤ (ln : Int)) = true := decide_eq_true hpq
        simp only [hpb]
        obtain ⟨hp, hq⟩ := hpq
        obtain ⟨q, hq1⟩ : ∃ q : Nat, PK = (q : Int) + 1 := ⟨(PK - 1).toNat, by omega⟩
        have HE : Hid (d2 = ⟨d.words.set q WD, L1⟩) := by
          unfold Hid
          rw [← HD2.out, if_pos ⟨hp, hq⟩, show (PK - 1).toNat = q from by omega]
        have hql : q < ln := by omega
        have hqli : (q : Int) < (ln : Int) := by omega
        have hwq : IntKind.i64.wrap (PK - 1) = (q : Int) := by rw [IntWalk.i64_in _ (by omega)]; omega
        clear hq1 hpb hp hq
        obtain ⟨y, hy⟩ : ∃ y, d.words[q]? = some y := ⟨d.words[q]'(by rw [HDL.out]; exact hql), List.getElem?_eq_getElem _⟩
        have HY := Lib.hid hy
        obtain ⟨hsa, hne9, cur, hcw, hcc, _⟩ := HTD5q.out.d.open hy
        subst hsa
        have hst5 := HTD5q.out.d.st
        have hd5 : (⟨d.words, L1⟩ : Dk).words.length = ln := HDL.out
        rw [hd5] at hst5
        have hdw : db ≠ wb := hne9
        have hsw : sb ≠ wb := by have h1 := HLT.out; unfold Hid at *; omega
        have hne := LaterX.nonempty (fun b => b = wb) wd
        have k0 : ∀ n2 : LaterX (fun b => b = wb) wd, n2.w.cell? ⟨db, 0, none⟩ = some (.slice (some ⟨wb, 0, none⟩) ln cap1) := LaterX.cell (cell_of hst5 0) hdw
        have k3 : ∀ n2 : LaterX (fun b => b = wb) wd, n2.w.cell? ⟨sb, 9, none⟩ = some (.int .i64 PK) := LaterX.cell (cell_of HS5q.out 9) hsw
        have k4 : ∀ n2 : LaterX (fun b => b = wb) wd, n2.w.cell? ⟨sb, 10, none⟩ = some (.int .i64 WD) := LaterX.cell (cell_of HS5q.out 10) hsw
        have c0 := (cell_of hcw q).trans hcc
        have z0 := free_of hcw q
        clear hst5 hd5 hcw hcc hy hdw hsw
        go_upto_region 11 with fail
        refine Mixed.wp_region_mixed (lateX (fun b => b = wb) wd) (fun k => k == 10) (by kernel_rfl) (by kernel_rfl) ⟨⟨wd.drew, fr_drewN (Fr.refl _ _) 1⟩, rfl⟩ ?_
        unfold lateX
        refine Mixed.wpM_quiet rfl rfl rfl ?_; intro Kx hKx; go_big_quiet_op; go_big_quiet_on
        refine wpM_nc rfl rfl _ ⟨db, 0, none⟩ rfl rfl ?_; go_simp
        refine Mixed.wpM_quiet rfl rfl rfl ?_; intro Kx hKx; go_big_quiet_op; go_big_quiet_on
        refine Mixed.wpM_quiet rfl rfl rfl ?_; intro Kx hKx; go_big_quiet_op; go_big_quiet_on
        refine Mixed.wpM_quiet rfl rfl rfl ?_; intro Kx hKx; go_big_quiet_op; go_big_quiet_on
        refine Mixed.wpM_quiet rfl rfl rfl ?_; intro Kx hKx; go_big_quiet_op; go_big_quiet_on
        refine Mixed.wpM_quiet rfl rfl rfl ?_; intro Kx hKx; go_big_quiet_op; go_big_quiet_on
        refine Mixed.wpM_quiet rfl rfl rfl ?_; intro Kx hKx; go_big_quiet_op; go_big_quiet_on
        refine Mixed.wpM_quiet rfl rfl rfl ?_; intro Kx hKx; go_big_quiet_op; go_big_quiet_on
        refine Mixed.wpM_quiet rfl rfl rfl ?_; intro Kx hKx; go_big_quiet_op; go_big_quiet_on
        refine wpM_store rfl rfl (wd.drew.setCell ⟨wb, q, none⟩ (.int .i64 WD)) (by go_simp) ⟨⟨_, fr_set (X := fun b => b = wb) (p := ⟨wb, q, none⟩) (fr_drewN (Fr.refl _ _) 1) (.inl rfl) _⟩, rfl⟩ ?_
        refine Mixed.wpM_nil ?_
        intro nx hnx
        clear nx hnx k0 k3 k4 hne
        have hfw : Fr (fun b => b = wb) wd (wd.drew.setCell ⟨wb, q, none⟩ (.int .i64 WD)) := fr_set (X := fun b => b = wb) (p := ⟨wb, q, none⟩) (fr_drewN (Fr.refl _ _) 1) (.inl rfl) _
        have HTD9 : Hid (TD Z (wd.drew.setCell ⟨wb, q, none⟩ (.int .i64 WD)) tb db wb (some ⟨wb, 0, none⟩) cap1 t ⟨d.words.set q WD, L1⟩) := td_words HTD5q.out hfw ((HTD5q.out.d.grown (grown_drew (grown_refl _ _))).put0 (d := ⟨d.words, L1⟩) HY.out WD)
        have HX9 : Hid ((wd.drew.setCell ⟨wb, q, none⟩ (.int .i64 WD)).heap[xb]? = some (.cells #[.int .i64 0, .int .i64 0, .slice none 0 0] 32 (0, 0))) := hfw.row HX5q.out (by have h1 := HLT.out; have h2 := HXB.out; unfold Hid at h2; show ¬ xb = wb; omega)
        have HF9 : Hid (Fr XX w4 (wd.drew.setCell ⟨wb, q, none⟩ (.int .i64 WD))) := HF5q.out.trans (hfw.mono (fun b hb => (HXX.out b).2 (.inr (.inr (.inl hb)))))
        clear hfw
        go_wp2_with fail
        go_meet
        exact ⟨by rw [HE.out]; exact HTD9.out, HX9.out, HF9.out⟩
      obtain ⟨HTD6, HX6, HF6⟩ := hcut
      obtain ⟨w6, hw6⟩ : ∃ w6 : World, w6 = wc := ⟨_, rfl⟩
      subst hw6
      clear HTD5q HX5q HF5q HS5q
      have s5 := cell_of (HF6.out.row HS4.out HSX.out) 0
      have HDR6 := Lib.hid HTD6.out.d
      have hd2l : Hid (d2.words.length = ln) := by
        unfold Hid
        rw [← HD2.out]
        split
        · simp only; rw [List.length_set]; exact HDL.out
        · exact HDL.out
      obtain ⟨t1, ht1⟩ : ∃ t1, (if OP = true then openT d2.words else t) = t1 := ⟨_, rfl⟩
      have HT1 := Lib.hid ht1
      clear ht1
      go_upto_if 60 with fail
      go_cut [8, 60] from 27 to 90 (fun v8 c wx => ∃ tb2, v8 = .pointer (some ⟨tb2, 0, none⟩) ∧ Hid (tb2 = tb ∨ w4.heap.size ≤ tb2) ∧ Hid (TD Z wx tb2 db wb sa1 cap1 t1 d2) ∧ Hid (wx.heap[xb]? = some (.cells #[.int .i64 0, .int .i64 0, .slice none 0 0] 32 (0, 0))) ∧ Hid (Fr XX w4 wx))
      case first =>
        cases OP with
        | false =>
          have HE : Hid (t1 = t) := HT1.out.symm
          go_wp2_with fail
          go_meet
          exact ⟨tb, rfl, .inl rfl, by rw [HE.out]; exact HTD6.out, HX6.out, HF6.out⟩
        | true =>
          have HE : Hid (t1 = openT d2.words) := HT1.out.symm
          have OC := Lib.hid (open_calls Z db wb cap1 sa1 d2 w6 HDR6.out HTD6.out.hz)
          go_wp2_with (go_at_call 14; refine (OC.out).mono ?_; rintro ez w7 ⟨tb2, rfl, htb7, htd7, hg7⟩)
          go_meet
          exact ⟨tb2, rfl, .inr (Nat.le_trans HF6.out.size htb7.out), by rw [HE.out]; exact htd7.out, row_kept hg7.out HX6.out (by simp), HF6.out.trans (.none hg7.out)⟩
      obtain ⟨tb2, rfl, HTB2, HTD7, HX7, HF7⟩ := hcut
      obtain ⟨w7, hw7⟩ : ∃ w7 : World, w7 = wc := ⟨_, rfl⟩
      subst hw7
      clear HTD6 HX6 HF6 HDR6 s5
      have hs7 := HF7.out.row HS4.out HSX.out
      have s1 := cell_of hs7 1
      have s2 := cell_of hs7 2
      have s3 := cell_of hs7 3
      have s4 := cell_of hs7 4
      have s5 := cell_of hs7 5
      have s6 := cell_of hs7 6
      have s7 := cell_of hs7 7
      clear hs7
      obtain ⟨RD, hRD⟩ : ∃ RD, (if D ≠ 0 then doT t1 d2 ⟨D, N, ⟨ta, tl, tt, tal, to_⟩⟩ else (t1, d2, 0)) = RD := ⟨_, rfl⟩
      have HRD := Lib.hid hRD
      clear hRD
      obtain ⟨t2, d3, er⟩ := RD
      have hxn : Hid (¬ XT tb2 db wb xb) := fun h => by
        have h1 := HLT.out
        have h2 := HXB.out
        have h3 := HTB2.out
        have h4 := lt_of HX4.out
        unfold Hid at h2
        rcases h with h | h | h
        · rcases h3 with h3 | h3 <;> omega
        · omega
        · omega
      have hxt : Hid (∀ b, XT tb2 db wb b → XX b ∨ w4.heap.size ≤ b) := fun b hb => by
        rcases hb with h | h | h
        · subst h
          exact HTB2.out.imp (fun e => (HXX.out _).2 (.inl e)) (fun e => e)
        · exact .inl ((HXX.out _).2 (.inr (.inl h)))
        · exact .inl ((HXX.out _).2 (.inr (.inr (.inl h))))
      go_upto_region 14 with fail
      obtain ⟨BD, hBD⟩ : ∃ BD, decide (D ≠ 0) = BD := ⟨_, rfl⟩
      have HBD := Lib.hid hBD
      clear hBD
      go_cut [71] from 27 to 90 (fun c wx => c = .bool BD ∧ w7 = wx)
      case first =>
        by_cases hD0 : D = 0
        · have HB : Hid (BD = false) := by unfold Hid; rw [← HBD.out]; simp [hD0]
          subst hD0
          go_wp2_with fail
          go_meet
          exact ⟨by rw [HB.out], rfl⟩
        · have HB : Hid (BD = true) := by unfold Hid; rw [← HBD.out]; simp [hD0]
          have hb : (D != 0) = true := by simp [hD0]
          go_wp2_with fail
          go_meet
          exact ⟨by rw [HB.out], rfl⟩
      obtain ⟨rfl, hwc⟩ := hcut
      subst hwc
      go_upto_if 71 with fail
      go_cut [71] from 27 to 90 (fun c wx => Hid (TD Z wx tb2 db wb sa1 cap1 t2 d3) ∧ Hid (wx.heap[xb]? = some (.cells #[.int .i64 er, .int .i64 0, .slice none 0 0] 32 (0, 0))) ∧ Hid (Fr XX w4 wx))
      case first =>
        cases BD with
        | false =>
          have HE : Hid ((t1, d2, (0 : Int)) = (t2, d3, er)) := by
            unfold Hid
            have h := of_decide_eq_false HBD.out
            rw [← HRD.out, if_neg h]
          have hE := HE.out
          simp only [Prod.mk.injEq] at hE
          obtain ⟨rfl, rfl, rfl⟩ := hE
          go_wp2_with fail
          go_meet
          exact ⟨HTD7.out, HX7.out, HF7.out⟩
        | true =>
          have HE : Hid (doT t1 d2 ⟨D, N, ⟨ta, tl, tt, tal, to_⟩⟩ = (t2, d3, er)) := by
            unfold Hid
            have h := of_decide_eq_true HBD.out
            rw [← HRD.out, if_pos h]
          have DC := Lib.hid (do_calls Z tb2 db wb cap1 sa1 t1 d2 ⟨D, N, ⟨ta, tl, tt, tal, to_⟩⟩ w7 HTD7.out)
          rw [HE.out] at DC
          simp only at DC
          clear HE HRD
          go_wp2_with (go_at_call 15; refine (DC.out).mono ?_; rintro ez w8 ⟨rfl, htd8, hf8⟩; have hx8 := hf8.out.row HX7.out hxn.out; have x0 := cell_of hx8 0; have zx0 := free_of hx8 0)
          go_meet
          have hfx : Fr (fun b => b = xb) w8 (w8.setCell ⟨xb, 0, none⟩ (.int .i64 er)) := fr_set (X := fun b => b = xb) (p := ⟨xb, 0, none⟩) (Fr.refl _ _) (.inl rfl) _
          refine ⟨⟨htd8.out.t.fr hfx (fun b hb => ⟨.inr ((HZ.out b).2 (.inr hb)), fun e => hxn.out (.inl (hb.symm.trans e))⟩), htd8.out.d.fr hfx (fun b hb hx => ?_), htd8.out.ne, Nat.lt_of_lt_of_le htd8.out.lt hfx.size, fun b hb => Nat.lt_of_lt_of_le (htd8.out.hz b hb) hfx.size⟩, set_self hx8 _, (fr_trans2 HF7.out hf8.out hxt.out).trans (hfx.mono (fun b hb => (HXX.out b).2 (.inr (.inr (.inr hb)))))⟩
          subst hb
          exact hxn.out (hx.elim (fun h => .inr (.inl h)) (fun h => .inr (.inr h)))
      obtain ⟨HTD8, HX8, HF8⟩ := hcut
      obtain ⟨w8, hw8⟩ : ∃ w8 : World, w8 = wc := ⟨_, rfl⟩
      subst hw8
      clear HTD7 HX7 HF7 s1 s2 s3 s4 s5 s6 s7
      have hzx : Hid (∀ b, (Value.slice oa k oc).ownBlock = some b → ¬ XX b) := fun b hb hx => by
        have h1 := HTD.out.hz b hb
        have h2 := HXB.out
        have h3 := HSB.out
        unfold Hid at h2 h3
        rcases (HXX.out b).1 hx with h | h | h | h
        · exact HZX.out b hb (.inl h)
        · exact HZX.out b hb (.inr (.inl h))
        · exact HZX.out b hb (.inr (.inr h))
        · omega
      have HSTEP : Hid (stepK t d ⟨OP, ⟨D, N, ⟨ta, tl, tt, tal, to_⟩⟩, PW, PK, WD⟩ = (t2, d3, ⟨er, lerrT t2, lineT t2⟩)) := step_eq t d _ L1 d2 t1 t2 d3 er HL1.out (by rw [HDL.out]; exact HD2.out) HT1.out HRD.out
      have TC := Lib.hid (tones_calls Z tb2 db wb t2 w8 HTD8.out.t)
      obtain ⟨lt2, hlt2⟩ : ∃ lt2, lerrT t2 = lt2 := ⟨_, rfl⟩
      obtain ⟨ln2, hln2⟩ : ∃ ln2, lineT t2 = ln2 := ⟨_, rfl⟩
      rw [hlt2, hln2] at TC HSTEP
      clear hlt2 hln2
      obtain ⟨i3, hi3, hy0, hy1, hy2⟩ := info_parts info32
      have hkb : k + 1 ≤ 1599289640401 := by omega
      go_upto_region 18 with (go_at_call 16; refine (TC.out).mono ?_; rintro ez w9 ⟨tv, rfl, hto9, hg9⟩; obtain ⟨la, lc, rfl⟩ := own_slice hto9.out; have hx9 := row_kept hg9.out HX8.out (by simp); have x2 := cell_of hx9 2; have zx2 := free_of hx9 2; have x1 := cell_of hx9 1; have zx1 := free_of hx9 1)
      have HTO9 : Hid (TosA w9 (fun b => w8.heap.size ≤ b) (.slice la ln2.length lc) ln2) := sla_of_own tone_len hto9.out _ (fun b hb => (own_base hto9.out hb).1)
      have HG9 := Lib.hid hg9.out
      obtain ⟨w10, hw10⟩ : ∃ w10, (w9.setCell ⟨xb, 2, none⟩ (.slice la ln2.length lc)).setCell ⟨xb, 1, none⟩ (.int .i64 lt2) = w10 := ⟨_, rfl⟩
      have HX10 : Hid (w10.heap[xb]? = some (.cells #[.int .i64 er, .int .i64 lt2, .slice la ln2.length lc] 32 (0, 0))) := by unfold Hid; rw [← hw10, set_self (set_self hx9 _) _]; rfl
      have HF910 : Hid (Fr (fun b => b = xb) w9 w10) := by unfold Hid; rw [← hw10]; exact fr_set (X := fun b => b = xb) (p := ⟨xb, 1, none⟩) (fr_set (X := fun b => b = xb) (p := ⟨xb, 2, none⟩) (Fr.refl _ _) (.inl rfl) _) (.inl rfl) _
      simp only [hw10]
      clear hw10 x2 zx2 x1 zx1 hx9 hg9 hto9
      have HF10 : Hid (Fr XX w4 w10) := (HF8.out.trans (.none HG9.out)).trans (HF910.out.mono (fun b hb => (HXX.out b).2 (.inr (.inr (.inr hb)))))
      have HTO10 : Hid (TosA w10 (fun b => w8.heap.size ≤ b ∧ b < w10.heap.size) (.slice la ln2.length lc) ln2) := sla_live (HTO9.out.fr HF910.out (fun b hb h => by have := lt_of HX8.out; omega))
      have x0 := cell_of HX10.out 0
      have x1 := cell_of HX10.out 1
      have x2 := cell_of HX10.out 2
      have HGA10 : Hid (w10.grownBy (w10.alloc (.cells #[.int .i64 er, .int .i64 lt2, .slice la ln2.length lc] 32)) none) := grown_alloc (grown_refl _ _) _
      have HOWN : Hid ((w10.alloc (.cells #[.int .i64 er, .int .i64 lt2, .slice la ln2.length lc] 32)).ownsRow w.heap.size 32 3 (.slice oa k oc) k (flC tnC ys)) := by
        have h := HOUT.out.own
        rw [HYL.out] at h
        exact own_kept (own_fr (own_kept h HG4.out) HF10.out hzx.out) HGA10.out
      clear HTO9 HX8

      go_upto_region 19 with (at_builtin; refine wpList_append_own_at _ rfl _ _ 24 rfl w.heap.size 32 i3 (.agg #[.int .i64 0, .int .i64 0, .slice none 0 0]) 3 40 Try.underlying24 hi3 hy0 hy1 hy2 rfl (by decide) (.slice oa k oc) k (flC tnC ys) rfl HOWN.out ⟨w10.heap.size, 0, none⟩ 1 1 [.int .i64 er, .int .i64 lt2, .slice la ln2.length lc] rfl rfl (fun j u hu => by rw [show ((⟨w10.heap.size, 0, none⟩ : Addr).add j) = ⟨w10.heap.size, 0 + j, none⟩ from Addr.add_lit _ _ _, Nat.zero_add, cell_of (heap_alloc_new _ _), ← Array.getElem?_toList]; exact hu) (by simp [Value.oneCell']) (by unfold maxLen; omega) (by omega) (by have h1 := HG.out.size; have h2 := HG4.out.size; have h3 := HF10.out.size; have h4 := HGA10.out.size; omega) ?_; intro v11 w11 ho11 hg11 _ hb11; obtain ⟨oa2, oc2, rfl⟩ := own_slice ho11)
      obtain ⟨wm, hwm⟩ : ∃ wm, w10.alloc (.cells #[.int .i64 er, .int .i64 lt2, .slice la ln2.length lc] 32) = wm := ⟨_, rfl⟩
      rw [hwm] at HGA10 HOWN hg11 hb11
      have hszm : wm.heap.size = w10.heap.size + 1 := by rw [← hwm]; simp
      clear hwm
      have HG11 := Lib.hid hg11
      have HB11 := Lib.hid hb11
      have HO11 := Lib.hid ho11
      have hfo : Fr (fun b => (Value.slice oa k oc).ownBlock = some b) wm w11 := .of hg11 (fun i e => e)
      have hsz11 := hg11.size
      have hsz10 := HF10.out.size
      have hsz9 := HG9.out.size
      have hsz910 := HF910.out.size
      have hszz := HG4.out.size
      have hsz8 := HF8.out.size
      have htb2 : tb2 < w8.heap.size := HTD8.out.lt
      have hnx : ∀ b, (Value.slice oa k oc).ownBlock = some b → ¬ XT tb2 db wb b := fun b hb hx => by
        have h1 := HTD.out.hz b hb
        rcases hx with h | h | h
        · rcases HTB2.out with h2 | h2
          · exact HZX.out b hb (.inl (h.trans h2))
          · omega
        · exact HZX.out b hb (.inr (.inl h))
        · exact HZX.out b hb (.inr (.inr h))
      have hown2 : ∀ b, (Value.slice oa2 (k + 1) oc2).ownBlock = some b → (Value.slice oa k oc).ownBlock = some b ∨ b = wm.heap.size := fun b hb => by
        rcases HB11.out with h | h
        · exact .inl (by rw [← h]; exact hb)
        · rw [h] at hb; injection hb with hb; exact .inr hb.symm
      have htd10 : TD Z w10 tb2 db wb sa1 cap1 t2 d3 := td_turn (Y := fun b => b = xb) (HTD8.out.grown HG9.out) HF910.out (fun b hb => ⟨(HZ.out b).2 (.inr hb), by rw [show b = xb from hb]; exact hxn.out⟩) (fun b hb => .inl hb) (fun b hb => Nat.lt_of_lt_of_le (HTD8.out.hz b hb) (Nat.le_trans HG9.out.size HF910.out.size))
      have htd11 : TD (fun b => (Value.slice oa2 (k + 1) oc2).ownBlock = some b) w11 tb2 db wb sa1 cap1 t2 d3 := td_turn (Y := fun b => (Value.slice oa k oc).ownBlock = some b) (htd10.grown HGA10.out) hfo (fun b hb => ⟨(HZ.out b).2 (.inl hb), hnx b hb⟩) (fun b hb => (hown2 b hb).elim (fun h => .inl ((HZ.out b).2 (.inl h))) (fun h => .inr (by omega))) (fun b hb => (own_base HO11.out hb).2)
      have hA2 : ∀ b, b < wm.heap.size → (Value.slice oa k oc).ownBlock ≠ some b → ¬ XT tb2 db wb b → AZ (fun b => (Value.slice oa2 (k + 1) oc2).ownBlock = some b) tb2 db wb b := fun b h1 h2 h3 => ⟨h3, fun h => (hown2 b h).elim h2 (fun e => by omega)⟩
      have hout11 : OutR w11 w.heap.size (AZ (fun b => (Value.slice oa2 (k + 1) oc2).ownBlock = some b) tb2 db wb) (.slice oa2 (k + 1) oc2) (ys ++ [(⟨er, lt2, ln2⟩, .slice la ln2.length lc)]) := by
        refine ⟨?_, fun y hy => ?_, fun y hy => ?_⟩
        · rw [List.length_append, HYL.out, flC_append]
          exact HO11.out
        · rcases List.mem_append.1 hy with hy | hy
          · have h1 := ((sla_live (HOUT.out.ts y hy)).grown HG4.out).fr HF10.out (fun b hb hx => by
              have h2 := HXB.out
              have h3 := HSB.out
              unfold Hid at h2 h3
              rcases (HXX.out b).1 hx with h | h | h | h
              · exact hb.1.1 (.inl h)
              · exact hb.1.1 (.inr (.inl h))
              · exact hb.1.1 (.inr (.inr h))
              · have := hb.2
                omega)
            refine ((h1.grown HGA10.out).fr hfo (fun b hb hx => hb.1.2 hx)).mono (fun b hb => hA2 b (by have := hb.2; omega) hb.1.2 (fun hx => ?_))
            rcases hx with h | h | h
            · rcases HTB2.out with h2 | h2
              · exact hb.1.1 (.inl (h.trans h2))
              · have := hb.2
                omega
            · exact hb.1.1 (.inr (.inl h))
            · exact hb.1.1 (.inr (.inr h))
          · simp only [List.mem_singleton] at hy
            subst hy
            have hno : ∀ b, w8.heap.size ≤ b → (Value.slice oa k oc).ownBlock ≠ some b := fun b h1 h2 => by have := HTD.out.hz b h2; omega
            refine ((HTO10.out.grown HGA10.out).fr hfo (fun b hb hx => hno b hb.1 hx)).mono (fun b hb => hA2 b (by have := hb.2; omega) (hno b hb.1) (fun hx => ?_))
            have h1 := lt_of HTD8.out.d.st
            have h2 := HTD8.out.d.lt
            have h3 := hb.1
            rcases hx with h | h | h <;> omega
        · rcases List.mem_append.1 hy with hy | hy
          · exact HOUT.out.sl y hy
          · simp only [List.mem_singleton] at hy
            subst hy
            exact ⟨_, _, _, rfl⟩
      have hrr : RR = ((ys ++ [((⟨er, lt2, ln2⟩ : Tn), Value.slice la ln2.length lc)]).map Prod.fst ++ (runK t2 d3 (ps.drop (k + 1))).1, (runK t2 d3 (ps.drop (k + 1))).2) := by
        rw [HRK.out, HSTEP.out]
        simp
      have hdl3 : d3.words.length = ln := by
        have h := HRD.out
        have h1 := hd2l.out
        by_cases hD0 : D ≠ 0
        · rw [if_pos hD0] at h
          have h2 := (do_good (t := t1) (by have h3 := HTD.out.t.good; have h4 := HT1.out; unfold Hid at h4; rw [← h4]; split; exact openT_good _; exact h3) d2 ⟨D, N, ⟨ta, tl, tt, tal, to_⟩⟩).2
          rw [h] at h2
          exact h2.trans h1
        · rw [if_neg hD0] at h
          simp only [Prod.mk.injEq] at h
          rw [← h.2.1]
          exact h1
      have hgw : w.grownBy w11 none := by
        have hX : ∀ b, XX b → w.heap.size ≤ b := fun b hb => by
          have h1 := HTB.out
          have h2 := HDB.out
          have h3 := HWB.out
          have h4 := HXB.out
          have h5 := HSB.out
          have h6 := HG.out.size
          unfold Hid at h1 h2 h3 h4 h5
          rcases (HXX.out b).1 hb with h | h | h | h <;> omega
        have h1 : Fr XX w w10 := (Fr.none (grown_trans HG.out HG4.out)).trans HF10.out
        exact grown_own (grown_trans (h1.grown hX) HGA10.out) HOWN.out (Nat.le_refl _) HG11.out
      have htb : w.heap.size ≤ tb2 := by
        rcases HTB2.out with h | h
        · rw [h]; exact HTB.out
        · have := HG.out.size
          omega
      clear hg11 hb11 ho11
      have hwk : IntKind.i64.wrap ((k : Int) + 1) = (k : Int) + 1 := IntWalk.i64_in _ (by omega)
      have FIN := Lib.hid (And.intro htd11 (And.intro hout11 (And.intro hrr (And.intro hdl3 (And.intro hgw (And.intro htb (fun b hb => (hown2 b hb).elim (hnx b) (fun e hx => by
        have h1 := lt_of HTD8.out.d.st
        have h2 := HTD8.out.d.lt
        rcases hx with h | h | h <;> omega) : ∀ b, (Value.slice oa2 (k + 1) oc2).ownBlock = some b → ¬ XT tb2 db wb b)))))))
      clear htd11 hout11 hrr hdl3 hgw htb hnx hown2 hA2 htd10 hfo
      go_wp2_with fail
      refine ⟨?_, by simp [intOf]; omega⟩
      obtain ⟨htd11, hout11, hrr, hdl3, hgw, htb, hzx2⟩ := FIN.out
      exact ⟨k + 1, tb2, t2, d3, _, oa2, oc2, by omega, rfl, rfl, rfl, by unfold Hid; rw [List.length_append, HYL.out]; rfl, hdl3, hrr, htb, hzx2, htd11, hout11, hgw⟩
end Go.Proofs.Ytdnmimfichijgaa.KTake
