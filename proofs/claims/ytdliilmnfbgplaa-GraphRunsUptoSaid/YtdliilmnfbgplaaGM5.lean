/- Texts of the graph seat, in one file: GRun, GRest, GMade, GClone. -/
import Derived.Test.YtdliilmnfbgplaaGM4
import Derived.Laws.OwnMore
import Derived.WalkSpells
/- A run: the walk. -/
namespace Go.Proofs.Ytdliilmnfbgplaa.GRun
open Go Go.RowKit Go.Proofs.Ytdliilmnfbgplaa.Fl Go.Proofs.Ytdliilmnfbgplaa.Fw Go.Proofs.Ytdliilmnfbgplaa.GRd Go.Proofs.Ytdliilmnfbgplaa.GCells Go.Proofs.Ytdliilmnfbgplaa.GStep Go.Proofs.Ytdliilmnfbgplaa.GMod Go.Proofs.Ytdliilmnfbgplaa.GMem Go.Proofs.Ytdliilmnfbgplaa.GNode Go.Proofs.Ytdliilmnfbgplaa.GNode2 Go.Proofs.Ytdliilmnfbgplaa.GNode3 Go.Proofs.Ytdliilmnfbgplaa.GNode4 Go.Proofs.Ytdliilmnfbgplaa.GPMem Go.Proofs.Ytdliilmnfbgplaa.GPState Go.Proofs.Ytdliilmnfbgplaa.GPiece Go.Proofs.Ytdliilmnfbgplaa.GRunF Go.Proofs.Ytdliilmnfbgplaa.GOuts Go.Proofs.Ytdliilmnfbgplaa.GSub Go.Proofs.Ytdliilmnfbgplaa.Hp Go.Proofs.Ytdliilmnfbgplaa.Rd Go.Proofs.Ytdliilmnfbgplaa.Opn
set_option linter.unusedVariables false
set_option linter.unusedSimpArgs false

/-- A graph between two runs. -/
structure GSt (w : World) (Z : Nat → Prop) (A : Nat → Nat → Prop) (h : Hn) (g : Gd) (order : List Nat) (chunk : Nat) (vs : List Value) (sts : List NS) : Prop where
  c : GrC w Z h g order chunk vs
  ns : NsR w A vs sts
  past : ∃ rows : List Value, w.heap[h.pb]? = some (.cells rows.toArray 38 (0, 0)) ∧ rows.length = g.nodes.length
  lay : Lay w Z A h.pb
  ok : GOk g order sts
  chunk : 0 < chunk ∧ chunk ≤ 65536

def RunPost (w0 : World) (Z : Nat → Prop) (A : Nat → Nat → Prop) (h : Hn) (g : Gd) (order : List Nat) (chunk : Nat) (vs : List Value) (r : (List (List Nat) × Int) × List NS) (e : Ending) (w' : World) : Prop :=
  ∃ ov, e = .returned (.tuple #[ov, .int .i64 r.1.2]) ∧ Hid (CLl w' (fun b => w0.heap.size ≤ b ∧ b < w'.heap.size) ov r.1.1) ∧ Hid (GSt w' Z A h g order chunk vs r.2) ∧ Hid (Fr (fun b => (∃ i, A i b) ∨ b = h.pb) w0 w')

theorem GSt.grown {w w' : World} {Z : Nat → Prop} {A : Nat → Nat → Prop} {h : Hn} {g : Gd} {order : List Nat} {chunk : Nat} {vs : List Value} {sts : List NS} (k : GSt w Z A h g order chunk vs sts) (hg : w.grownBy w' none) : GSt w' Z A h g order chunk vs sts := by
  obtain ⟨c, ns, ⟨rows, p1, p2⟩, lay, ok, ch⟩ := k
  exact ⟨c.fr (X := fun _ => False) (.none hg) (fun _ _ => id), ns.fr (X := fun _ => False) (.none hg) (fun _ _ _ => id), ⟨rows, row_kept hg p1 (by simp), p2⟩, Lay.mono lay hg.size, ok, ch⟩

theorem GSt.fr {w w' : World} {X Z : Nat → Prop} {A : Nat → Nat → Prop} {h : Hn} {g : Gd} {order : List Nat} {chunk : Nat} {vs : List Value} {sts : List NS} (k : GSt w Z A h g order chunk vs sts) (hf : Fr X w w') (hX : ∀ b, X b → ¬ Z b ∧ (∀ i, ¬ A i b) ∧ b ≠ h.pb) : GSt w' Z A h g order chunk vs sts := by
  obtain ⟨c, ns, ⟨rows, p1, p2⟩, lay, ok, ch⟩ := k
  exact ⟨c.fr hf (fun b hb e => (hX b e).1 hb), ns.fr hf (fun i b hb e => (hX b e).2.1 i hb), ⟨rows, hf.row p1 (fun e => (hX _ e).2.2 rfl), p2⟩, Lay.mono lay hf.size, ok, ch⟩

/-- Where a run stands. -/
structure RSt (w0 wr : World) (Z : Nat → Prop) (A : Nat → Nat → Prop) (h : Hn) (g : Gd) (order : List Nat) (chunk : Nat) (vs : List Value) (n : Nat) (ls : List (List Nat)) (s0 : List NS) (nb ub B : Nat) (a f : Nat) (st : List NS) (us : List Value) (outs : List (List Nat)) : Prop where
  stR : GSt wr Z A h g order chunk vs st
  outsR : OutsR wr B ub us outs
  ol : outs.length = g.outs.length
  oa : ∀ l ∈ outs, l.length = a
  nb : wr.heap[nb]? = some (.cells #[.int .i64 (n : Int)] 3 (0, 0))
  fr : Fr (fun b => (∃ i, A i b) ∨ b = h.pb) w0 wr
  eq : chunksN g order chunk ls n n 0 s0 (List.replicate g.outs.length []) = chunksN g order chunk ls n f a st outs
  fuel : n ≤ a + f
theorem RSt.grown {w0 wr w2 : World} {Z : Nat → Prop} {A : Nat → Nat → Prop} {h : Hn} {g : Gd} {order : List Nat} {chunk : Nat} {vs : List Value} {n : Nat} {ls : List (List Nat)} {s0 : List NS} {nb ub B a f : Nat} {st : List NS} {us : List Value} {outs : List (List Nat)} (k : RSt w0 wr Z A h g order chunk vs n ls s0 nb ub B a f st us outs) (hg : wr.grownBy w2 none) : RSt w0 w2 Z A h g order chunk vs n ls s0 nb ub B a f st us outs :=
  ⟨k.stR.grown hg, k.outsR.grown hg, k.ol, k.oa, row_kept hg k.nb (by simp), k.fr.trans (.none hg), k.eq, k.fuel⟩
theorem chunks_end {g : Gd} {order : List Nat} {chunk : Nat} {ls : List (List Nat)} {n a : Nat} (h : n ≤ a) : ∀ (f : Nat) (st : List NS) (outs : List (List Nat)), chunksN g order chunk ls n f a st outs = (outs, st)
  | 0, st, outs => rfl
  | f + 1, st, outs => by unfold chunksN; rw [if_neg (by omega)]
theorem outs_cll {w : World} {B ub : Nat} {vs : List Value} {outs : List (List Nat)} (h : OutsR w B ub vs outs) {M : Nat} (hM : outs.length = M) : CLl w (fun b => B ≤ b ∧ b < w.heap.size) (.slice (some ⟨ub, 0, none⟩) M M) outs := by
  refine ⟨vs, h.len, .inl ⟨ub, 0, M, ⟨h.base, lt_of h.cell⟩, by rw [h.len, hM], fun i u hu j x hx => ?_⟩, fun i u l hu hl => ?_⟩
  · cases j with
    | zero =>
      simp [vC] at hx
      subst hx
      rw [Nat.zero_add, Nat.mul_one, Nat.add_zero, cell_of h.cell]
      simpa using hu
    | succ j => simp [vC] at hx
  · obtain ⟨ys, h1, h2⟩ := h.val i u l hu hl
    exact ⟨ys, sla_of_own fC_len h1 _ (fun b hb => own_base h1 hb), h2⟩

theorem runG_bad {g : Gd} {order : List Nat} {chunk : Nat} {sts : List NS} {ls : List (List Nat)} {n r : Int} (h : rightE g ls n = r) (hr : r ≠ 0) : runG g order chunk sts ls n = (([], r), sts) := by
  unfold runG
  rw [h, if_pos hr]
theorem nilO (w0 w : World) : CLl w (fun b => w0.heap.size ≤ b ∧ b < w.heap.size) (.slice none 0 0) [] := ⟨[], rfl, .inr ⟨none, 0, rfl, rfl⟩, fun i u l h => by simp at h⟩

/-- The rows that go out while a piece is laid behind them: the first k of them have it. -/
def outsK (p : List (List Nat)) (go : List Int) (outs : List (List Nat)) (k : Nat) : List (List Nat) := (List.zipWith (fun o (z : Int) => o ++ p.getD z.toNat []) outs go).take k ++ outs.drop k
theorem outsK_zero (p : List (List Nat)) (go : List Int) (outs : List (List Nat)) : outsK p go outs 0 = outs := by simp [outsK]
theorem outsK_full (p : List (List Nat)) (go : List Int) (outs : List (List Nat)) {k : Nat} (h : outs.length = k) (h2 : go.length = k) : outsK p go outs k = List.zipWith (fun o (z : Int) => o ++ p.getD z.toNat []) outs go := by
  unfold outsK
  rw [List.take_of_length_le (by simp; omega), List.drop_of_length_le (by omega), List.append_nil]
theorem outsK_get (p : List (List Nat)) (go : List Int) (outs : List (List Nat)) (hl : outs.length = go.length) {k : Nat} (hk : k ≤ outs.length) (i : Nat) : (outsK p go outs k)[i]? = if i < k then (List.zipWith (fun o (z : Int) => o ++ p.getD z.toNat []) outs go)[i]? else outs[i]? := by
  unfold outsK
  have hlt : ((List.zipWith (fun o (z : Int) => o ++ p.getD z.toNat []) outs go).take k).length = k := by simp; omega
  split
  · rw [List.getElem?_append_left (by omega), List.getElem?_take, if_pos (by omega)]
  · rw [List.getElem?_append_right (by omega), hlt, List.getElem?_drop, show k + (i - k) = i from by omega]
theorem outsK_next {p : List (List Nat)} {go : List Int} {outs : List (List Nat)} (hl : outs.length = go.length) {k : Nat} {l : List Nat} {z : Int} (h1 : outs[k]? = some l) (h2 : go[k]? = some z) :
    (outsK p go outs k)[k]? = some l ∧ outsK p go outs (k + 1) = (outsK p go outs k).set k (l ++ p.getD z.toNat []) := by
  have hk := (List.getElem?_eq_some_iff.1 h1).1
  have e := outsK_get p go outs hl (k := k) (by omega)
  have e2 := outsK_get p go outs hl (k := k + 1) (by omega)
  have hlen : (outsK p go outs k).length = outs.length := by unfold outsK; simp; omega
  refine ⟨by rw [e, if_neg (by omega), h1], ?_⟩
  apply List.ext_getElem?
  intro i
  rw [e2]
  by_cases hi : k = i
  · subst hi
    rw [List.getElem?_set_self (by omega), if_pos (by omega), List.getElem?_zipWith, h1, h2]
  · rw [List.getElem?_set_ne hi, e]
    by_cases h3 : i < k
    · rw [if_pos h3, if_pos (by omega)]
    · rw [if_neg h3, if_neg (by omega)]
theorem HrR.cllB {w : World} {B : Nat} {A A' : Nat → Prop} {v : Value} {us : List Value} {ls : List (List Nat)} (h : HrR w B A v us ls) (hA : ∀ b, A b → A' b) (hB : ∀ b, B ≤ b → b < w.heap.size → A' b) : CLl w A' v ls :=
  ⟨us, h.len, sla_of_own vC_len h.own A' (fun b hb => hB b (own_base h.own hb).1 (own_base h.own hb).2), fun i u l hu hl => (h.rows i u l hu hl).mono hA⟩
theorem wpM_append_in {P : Program} {ops : Array Oper} {C : World → Prop} {B : Nat → Bool} {Q : Act → World → Prop} {k : Nat} {o : Oper} {rest : List Oper} {a : Act} {w : World} (hw : Region.wanted o (yielded ops a.tmps) = true) (hB : B k = true) (s x : Operand) (t : TypeId)
    (ho : o.op = .call { callee := .builtin .append, args := #[s, x], argTypes := #[t, t] })
    (base : Nat) (e : TypeId) (i : TypeInfo) (z : Value) (size bytes : Nat) (ht : P.underlying t = some (.slice e)) (hi : P.info? e = some i) (hz : i.zero = some z)
    (hsize : i.size = size) (hby : i.bytes = bytes) (hzs : z.cells.size = size) (hsz : 0 < size)
    (v : Value) (n : Nat) (xs : List Value) (hs : a.eval s = v) (hown : w.ownsRow base e size v n xs)
    (ao : Option Addr) (m c : Nat) (news : List Value) (hx : a.eval x = .slice ao m c) (hl : news.length = m * size) (hnews : ∀ j u, news[j]? = some u → ∃ b off, ao = some ⟨b, off, none⟩ ∧ w.cell? ⟨b, off + j, none⟩ = some u) (h1 : ∀ u ∈ news, u.oneCell' = true)
    (h63 : n + m ≤ maxLen) (hbytes : (n + m) * bytes ≤ 140737488355328) (hbase : base ≤ w.heap.size)
    (h : ∀ oa oc w', w'.ownsRow base e size (.slice oa (n + m) oc) (n + m) (xs ++ news) → w.grownBy w' v.ownBlock → ((Value.slice oa (n + m) oc).ownBlock = v.ownBlock ∨ (Value.slice oa (n + m) oc).ownBlock = some w.heap.size) → C w' ∧ Mixed.wpM P ops C B Q (k + 1) rest (a.put o.dst (.slice oa (n + m) oc)) w') :
    Mixed.wpM P ops C B Q k (o :: rest) a w := by
  obtain ⟨v', w', hr, h2, h3, h4⟩ := run_append_in (P := P) (w := w) base t o.type e i z size bytes ht hi hz hsize hby hzs hsz v n xs hown ao m c news hl hnews h1 h63 hbytes hbase
  obtain ⟨oa, oc, rfl⟩ := own_slice h2
  refine Mixed.wpM_make hw hB _ w' ?_ (h oa oc w' h2 h3 h4).1 (h oa oc w' h2 h3 h4).2
  simp [execOp, ho, resolve, invoke, builtin, hs, hx, hr, Result.andThen]

theorem slice_pos {w : World} {A : Nat → Prop} {ro : Option Addr} {rc : Nat} {l : List Nat} (h : CFl w A (.slice ro l.length rc) l) (hrc : l.length ≤ rc) (a m : Nat) (hm : a + m ≤ l.length) (h0 : 0 < m) :
    ∃ b o, ro = some ⟨b, o, none⟩ ∧ CFl w A (.slice (some ⟨b, o + a, none⟩) m (rc - a)) ((l.drop a).take m) := by
  obtain ⟨ys, h1, rfl⟩ := h
  rw [List.length_map] at hm hrc
  have hl : ((ys.drop a).take m).length = m := by rw [List.length_take, List.length_drop]; omega
  rcases h1 with ⟨b, off, cap, hA, e, hr⟩ | ⟨ao, cap, e, rfl⟩
  · simp only [Value.slice.injEq] at e
    obtain ⟨rfl, _, rfl⟩ := e
    refine ⟨b, off, rfl, (ys.drop a).take m, .inl ⟨b, off + a, rc - a, hA, by rw [hl], fun i x hx => ?_⟩, by rw [List.map_take, List.map_drop]⟩
    rw [List.getElem?_take] at hx
    split at hx
    · rw [List.getElem?_drop] at hx
      have := hr (a + i) x hx
      rw [Nat.mul_one] at this ⊢
      rw [Nat.add_assoc]
      exact this
    · cases hx
  · simp at hm
    omega

set_option maxHeartbeats 4000000 in
set_option maxRecDepth 100000 in
theorem run_calls (Z : Nat → Prop) (A : Nat → Nat → Prop) (I : Nat → Prop) (h : Hn) (g : Gd) (order : List Nat) (chunk : Nat) (vs : List Value) (sts : List NS) (ia : Option Addr) (ic : Nat) (ls : List (List Nat)) (n : Int) (w0 : World)
    (hst : GSt w0 Z A h g order chunk vs sts) (hin : InsR w0 I (.slice ia ls.length ic) ls) (hI : ∀ b, I b → b < w0.heap.size ∧ b ≠ h.pb ∧ ∀ i, ¬ A i b) (hlm : ls.length ≤ 1048576) :
    Calls Try.prog 15 #[.pointer (some ⟨h.gb, 0, none⟩), .slice ia ls.length ic, .int .i64 n] w0 fun e w' => RunPost w0 Z A h g order chunk vs (runG g order chunk sts ls n) e w' := by
  obtain ⟨gb, pb, na, nc, oa, oc, va, vc, ra, rc⟩ := h
  have HST := Lib.hid hst
  have HIN := Lib.hid hin
  have HI := Lib.hid hI
  have HGA : Hid (w0.grownBy (w0.alloc (.cells #[.int .i64 n] 3)) none) := grown_alloc (grown_refl _ _) _
  have HNB : Hid ((w0.alloc (.cells #[.int .i64 n] 3)).heap[w0.heap.size]? = some (.cells #[.int .i64 n] 3 (0, 0))) := heap_alloc_new _ _
  have hcell := hst.c.cell
  dsimp only at hcell
  obtain ⟨N, hN⟩ : ∃ N, g.nodes.length = N := ⟨_, rfl⟩
  obtain ⟨M, hM⟩ : ∃ M, g.outs.length = M := ⟨_, rfl⟩
  obtain ⟨L, hL⟩ : ∃ L, ls.length = L := ⟨_, rfl⟩
  rw [hN, hM] at hcell
  rw [hL] at hlm ⊢
  have HN := Lib.hid hN
  have HM := Lib.hid hM
  have HL := Lib.hid hL
  have c0 := cell_of hcell 0
  have c2 := cell_of hcell 2
  have c5 := cell_of hcell 5
  have c6 := cell_of hcell 6
  obtain ⟨RG, hRG⟩ : ∃ RG, runG g order chunk sts ls n = RG := ⟨_, rfl⟩
  have HRG := Lib.hid hRG
  rw [hRG]
  obtain ⟨nb, hnb⟩ : ∃ nb, w0.heap.size = nb := ⟨_, rfl⟩
  have HNBE := Lib.hid hnb
  clear hst hin hI hcell hN hM hL hRG hnb
  go_enter Try.func15, Try.ntmps15
  by_cases hr1 : n < 0 ∨ 65536 < n
  · have HE := Lib.hid (runG_bad (order := order) (chunk := chunk) (sts := sts) (r := 3) (show rightE g ls n = 3 by unfold rightE; rw [if_pos hr1]) (by decide))
    rw [HRG.out] at HE
    rcases Int.lt_or_le n 0 with h1 | h1
    · go_wp2_with fail
      go_ret2
      exact ⟨.slice none 0 0, by rw [HE.out]; rfl, by rw [HE.out]; exact nilO _ _, by rw [HE.out]; exact HST.out.grown HGA.out, .none HGA.out⟩
    · have h2 : 65536 < n := by omega
      have h3 : ¬ n < 0 := by omega
      go_wp2_with fail
      go_ret2
      exact ⟨.slice none 0 0, by rw [HE.out]; rfl, by rw [HE.out]; exact nilO _ _, by rw [HE.out]; exact HST.out.grown HGA.out, .none HGA.out⟩
  have h1 : ¬ n < 0 := fun e => hr1 (.inl e)
  have h2 : ¬ 65536 < n := fun e => hr1 (.inr e)
  have y0 := grown_cell HGA.out c0 (by simp)
  have y2 := grown_cell HGA.out c2 (by simp)
  by_cases hr2 : (L : Int) = g.ins
  · have hr2b : ¬ ((ls.length : Int) ≠ g.ins) := by rw [HL.out]; simp [hr2]
    have HC : Hid (Calls Try.prog 24 #[.slice ia L ic, .func (.func 25) #[] #[.pointer (some ⟨w0.heap.size, 0, none⟩)]] (w0.alloc (.cells #[.int .i64 n] 3)) fun e w' => e = .returned (.bool (badAny n ls)) ∧ Hid ((w0.alloc (.cells #[.int .i64 n] 3)).grownBy w' none)) := by
      have h := has_calls I ia ic w0.heap.size n ls (w0.alloc (.cells #[.int .i64 n] 3)) (HIN.out.cll.grown HGA.out) (by rw [HL.out]; omega) (cell_of HNB.out 0)
      rw [HL.out] at h
      exact h
    obtain ⟨BA, hBA⟩ : ∃ BA, badAny n ls = BA := ⟨_, rfl⟩
    rw [hBA] at HC
    have HBA := Lib.hid hBA
    rw [← hr2] at y0
    cases BA with
    | true =>
      have HE := Lib.hid (runG_bad (order := order) (chunk := chunk) (sts := sts) (r := 8) (show rightE g ls n = 8 by unfold rightE; rw [if_neg hr1, if_neg hr2b]; exact if_pos hBA) (by decide))
      rw [HRG.out] at HE
      clear hBA
      go_wp2_with (go_at_call 24; refine (HC.out).mono ?_; rintro ez w2 ⟨rfl, hg2⟩)
      go_ret2
      exact ⟨.slice none 0 0, by rw [HE.out]; rfl, by rw [HE.out]; exact nilO _ _, by rw [HE.out]; exact (HST.out.grown HGA.out).grown hg2.out, .none (grown_trans HGA.out hg2.out)⟩
    | false =>
      have hE0 : rightE g ls n = 0 := by unfold rightE; rw [if_neg hr1, if_neg hr2b]; exact if_neg (by intro e; exact absurd (hBA.symm.trans e) (by decide))
      have HLN : Hid (∀ l ∈ ls, (l.length : Int) = n) := fun l hl => by
        have h := hBA
        unfold badAny at h
        rw [List.any_eq_false] at h
        have := h l hl
        simpa using this
      clear hBA
      obtain ⟨nn, rfl⟩ : ∃ nn : Nat, n = (nn : Int) := Int.eq_ofNat_of_zero_le (by omega)
      have hnn : nn ≤ 65536 := by omega
      have HCH : Hid (RG = (((chunksN g order chunk ls nn nn 0 sts (List.replicate M [])).1, 0), (chunksN g order chunk ls nn nn 0 sts (List.replicate M [])).2)) := by
        unfold Hid
        rw [← HRG.out]
        unfold runG
        rw [hE0, if_neg (by simp), Int.toNat_natCast, HM.out]
      obtain ⟨i0, hi, hz0, hz1, hz2⟩ := info_parts info46
      obtain ⟨j0, hj38, hj0, hj1, hj2⟩ : ∃ j0, Try.prog.info? 38 = some j0 ∧ j0.zero = some (.slice none 0 0) ∧ j0.size = 1 ∧ j0.bytes = 24 := info_parts info38
      have hM2 : M ≤ 256 := by rw [← HM.out]; exact HST.out.ok.outs.1
      go_upto_region 5 with (go_at_call 24; refine (HC.out).mono ?_; rintro ez w2 ⟨rfl, hg2⟩)
      have HG2 : Hid (w0.grownBy w2 none) := grown_trans HGA.out hg2.out
      have HNB2 := row_kept hg2.out HNB.out (by simp)
      have z2 := grown_cell HG2.out c2 (by simp)
      clear hg2 HC
      go_upto_region 6 with (at_make; refine wpList_make_full _ rfl _ _ 32 rfl w2.heap.size 38 j0 (.slice none 0 0) 1 Try.underlying32 hj38 hj0 hj1 _ _ _ _ M rfl rfl rfl rfl (by rw [hj2]; omega) (by unfold maxLen; omega) (Nat.le_refl _) ?_; intro w3 hown hg3)
      have HUB : Hid (w3.heap[w2.heap.size]? = some (.cells (List.replicate M (.slice none 0 0)).toArray 38 (0, 0))) := by
        rw [show (madeCells (Value.slice none 0 0).cells (M * 1)).toList = List.replicate M (Value.slice none 0 0) from by rw [Nat.mul_one]; exact madeCells_one _ _] at hown
        exact new_of_made hown
      have HR0 : Hid (RSt w0 w3 Z A ⟨gb, pb, na, nc, oa, oc, va, vc, ra, rc⟩ g order chunk vs nn ls sts w0.heap.size w2.heap.size w2.heap.size 0 nn sts (List.replicate M (.slice none 0 0)) (List.replicate M [])) := by
        refine ⟨HST.out.grown (grown_trans HG2.out hg3), ⟨HUB.out, Nat.le_refl _, by simp, fun i v l hv hl => ?_, fun i v hv => ?_, fun i j v u b hv _ hb => ?_⟩, by rw [List.length_replicate]; exact HM.out.symm, fun l hl => ?_, row_kept hg3 HNB2 (by simp), .none (grown_trans HG2.out hg3), by rw [HM.out], by omega⟩
        · rw [List.getElem?_replicate] at hv hl
          split at hv
          · rename_i hi
            rw [if_pos hi] at hl
            injection hv with hv
            injection hl with hl
            subst hv hl
            exact ⟨[], ⟨rfl, .inl ⟨rfl, rfl⟩⟩, rfl⟩
          · cases hv
        · rw [List.getElem?_replicate] at hv
          split at hv
          · injection hv with hv
            subst hv
            simp [Value.ownBlock]
          · cases hv
        · rw [List.getElem?_replicate] at hv
          split at hv
          · injection hv with hv
            subst hv
            simp [Value.ownBlock] at hb
          · cases hv
        · rw [List.eq_of_mem_replicate hl]
          rfl
      obtain ⟨ub, hub⟩ : ∃ ub, w2.heap.size = ub := ⟨_, rfl⟩
      obtain ⟨nb, hnb⟩ : ∃ nb, w0.heap.size = nb := ⟨_, rfl⟩
      have hnu : nb < ub := by rw [← hub, ← hnb]; exact lt_of HNB2
      rw [hub, hnb] at HR0
      simp only [hub, hnb]
      have HNBS := Lib.hid hnb
      clear hown hg3 HUB hub HNB2 z2 hnb HNB HGA
      go_wp2_with fail
      go_loopw [9, 10, 11, 13, 14, 15] (fun v9 v10 v11 v13 v14 v15 wr => ∃ (a f : Nat) (st : List NS) (us : List Value) (outs : List (List Nat)), a ≤ nn ∧ v9 = .int .i64 (a : Int) ∧ Hid (RSt w0 wr Z A ⟨gb, pb, na, nc, oa, oc, va, vc, ra, rc⟩ g order chunk vs nn ls sts nb ub ub a f st us outs)) (fun v9 _ _ _ _ _ _ => nn - (intOf v9).toNat)
      case atStart => exact ⟨0, nn, sts, _, _, Nat.zero_le _, rfl, HR0.out⟩
      case round =>
        obtain ⟨a, f, st, us, outs, han, rfl, HR⟩ := hrel
        obtain ⟨wz, hwz⟩ : ∃ wz : World, wz = wr := ⟨_, rfl⟩
        subst hwz
        clear HR0
        have zn := cell_of HR.out.nb 0
        by_cases ha : a = nn
        · subst ha
          have HE := Lib.hid (chunks_end (g := g) (order := order) (chunk := chunk) (ls := ls) (n := a) (a := a) (Nat.le_refl _) f st outs)
          rw [← HR.out.eq, HM.out] at HE
          have HOL := Lib.hid (HR.out.ol.trans HM.out)
          go_wp2_with fail
          go_ret2
          exact ⟨.slice (some ⟨ub, 0, none⟩) M M, by rw [HCH.out]; rfl, by rw [HCH.out, HE.out]; exact (outs_cll HR.out.outsR HOL.out).mono (fun b hb => ⟨by have h := HNBS.out; omega, hb.2⟩), by rw [HCH.out, HE.out]; exact HR.out.stR, HR.out.fr⟩
        have hal : (a : Int) < (nn : Int) := by omega
        have hal2 : a < nn := by omega
        obtain ⟨f2, rfl⟩ : ∃ f2, f = f2 + 1 := ⟨f - 1, by have := HR.out.fuel; omega⟩
        have hZX : ∀ b, Z b → ¬ ((∃ i, A i b) ∨ b = pb) := fun b hb => by
          rintro (⟨i, e⟩ | e)
          · exact HST.out.lay.za i b hb e
          · exact HST.out.lay.zp (e ▸ hb)
        have hZG := HST.out.c.z
        dsimp only at hZG
        have z5 := HR.out.fr.cell c5 (hZX gb hZG)
        obtain ⟨m, hm⟩ : ∃ m, min chunk (nn - a) = m := ⟨_, rfl⟩
        have HMI := Lib.hid hm
        have hch := HST.out.chunk
        have hm0 : 0 < m := by omega
        have hm1 : m ≤ 65536 := by omega
        have hma : a + m ≤ nn := by omega
        have hsub : IntKind.i64.wrap ((nn : Int) - (a : Int)) = ((nn - a : Nat) : Int) := by rw [IntWalk.i64_in _ (by omega)]; omega
        have hne := LaterX.nonempty (fun _ => False) wz
        have k1 : ∀ n2 : LaterX (fun _ => False) wz, n2.w.cell? ⟨gb, 3 + 2, none⟩ = some (.int .i64 (chunk : Int)) := LaterX.cell z5 id
        have k2 : ∀ n2 : LaterX (fun _ => False) wz, n2.w.cell? ⟨nb, 0, none⟩ = some (.int .i64 (nn : Int)) := LaterX.cell zn id
        simp only [Nat.reduceAdd] at k1
        go_upto_region 8 with fail
        refine Mixed.wp_region_mixed (lateX (fun _ => False) wz) (fun k => k == 7) (by kernel_rfl) (by kernel_rfl) ⟨⟨wz.drew, fr_drewN (Fr.refl _ _) 1⟩, rfl⟩ ?_
        unfold lateX
        refine Mixed.wpM_quiet rfl rfl rfl ?_; intro Kx hKx; go_big_quiet_op; go_big_quiet_on
        refine wpM_nc rfl rfl _ ⟨gb, 0, none⟩ rfl rfl ?_; go_simp
        refine Mixed.wpM_quiet rfl rfl rfl ?_; intro Kx hKx; go_big_quiet_op; go_big_quiet_on
        refine Mixed.wpM_quiet rfl rfl rfl ?_; intro Kx hKx; go_big_quiet_op; go_big_quiet_on
        refine Mixed.wpM_quiet rfl rfl rfl ?_; intro Kx hKx; go_big_quiet_op; go_big_quiet_on
        refine Mixed.wpM_quiet rfl rfl rfl ?_; intro Kx hKx; go_big_quiet_op; go_big_quiet_on
        refine Mixed.wpM_quiet rfl rfl rfl ?_; intro Kx hKx; go_big_quiet_op; go_big_quiet_on
        refine Mixed.wpM_make rfl rfl (.int .i64 (m : Int)) wz.drew (by go_simp; split <;> omega) ⟨⟨wz.drew, fr_drewN (Fr.refl _ _) 1⟩, rfl⟩ ?_
        go_simp
        refine Mixed.wpM_quiet rfl rfl rfl ?_; intro Kx hKx; go_big_quiet_op; go_big_quiet_on
        refine Mixed.wpM_nil ?_
        intro nx hnx
        clear nx hnx k1 k2 hne
        obtain ⟨wy, hwy⟩ : ∃ wy, wz.drew = wy := ⟨_, rfl⟩
        have HGY : Hid (wz.grownBy wy none) := by unfold Hid; rw [← hwy]; exact grown_drew (grown_refl _ _)
        simp only [hwy]
        clear hwy
        have HRY := Lib.hid (HR.out.grown HGY.out)
        have HINY : Hid (InsR wy I (.slice ia L ic) ls) := by
          unfold Hid
          rw [← HL.out]
          refine HIN.out.fr HRY.out.fr (fun b hb => ?_)
          rintro (⟨i, e⟩ | e)
          · exact (HI.out b hb).2.2 i e
          · exact (HI.out b hb).2.1 e
        obtain ⟨A2, hA2⟩ : ∃ A2 : Nat → Prop, (fun b => I b ∧ b < wy.heap.size) = A2 := ⟨_, rfl⟩
        have HA2 : Hid (∀ b, A2 b ↔ (I b ∧ b < wy.heap.size)) := fun b => by rw [← hA2]
        clear hA2 HGY zn z5
        go_wp2_with fail
        go_loopw [11, 13, 55] (fun v11 v13 v55 wr => ∃ (q : Nat) (vs2 : List Value), q ≤ L ∧ v55 = .int .i64 (q : Int) ∧ Hid (HrR wr wy.heap.size A2 v11 vs2 ((ls.take q).map fun l => (l.drop a).take m)) ∧ Hid (wy.grownBy wr none)) (fun _ _ v55 _ => L - (intOf v55).toNat)
        case atStart => exact ⟨0, [], Nat.zero_le _, rfl, HrR.nil _ _ _, grown_refl _ _⟩
        case round =>
          obtain ⟨q, vs2, hq, rfl, HU, HGX⟩ := hrel
          obtain ⟨wu, hwu⟩ : ∃ wu : World, wu = wr := ⟨_, rfl⟩
          subst hwu
          by_cases hqL : q = L
          · have h2 := hqL.symm
            subst h2
            clear hqL
            obtain ⟨oa2, oc2, rfl⟩ := own_slice HU.out.own
            have hvl : vs2.length = L := by rw [HU.out.len, List.length_map, List.length_take, HL.out]; omega
            have HU3 := Lib.hid HU.out
            rw [hvl]
            obtain ⟨lsm, hlsm⟩ : ∃ lsm, ls.map (fun l => (l.drop a).take m) = lsm := ⟨_, rfl⟩
            have HLSM := Lib.hid hlsm
            have hlml : lsm.length = L := by rw [← hlsm, List.length_map]; exact HL.out
            have HRU := Lib.hid (HRY.out.grown HGX.out)
            have hszy : wy.heap.size ≤ wu.heap.size := HGX.out.size
            have hsz0 : w0.heap.size ≤ wy.heap.size := HRY.out.fr.size
            have HIN3 : Hid (CLl wu (fun b => A2 b ∨ (wy.heap.size ≤ b ∧ b < wu.heap.size)) (.slice oa2 lsm.length oc2) lsm) := by
              have h := HrR.cllB HU3.out (A' := fun b => A2 b ∨ (wy.heap.size ≤ b ∧ b < wu.heap.size)) (fun b hb => .inl hb) (fun b h1 h2 => .inr ⟨h1, h2⟩)
              rw [hvl, List.take_of_length_le (by rw [HL.out]; exact Nat.le_refl _), hlsm] at h
              unfold Hid
              rw [hlml]
              exact h
            have PC := piece_calls Z A (fun b => A2 b ∨ (wy.heap.size ≤ b ∧ b < wu.heap.size)) ⟨gb, pb, na, nc, oa, oc, va, vc, ra, rc⟩ g order chunk vs st oa2 oc2 lsm m wu HRU.out.stR.c HRU.out.stR.ns HRU.out.stR.past HRU.out.stR.lay HRU.out.stR.ok HIN3.out
              (fun b hb => by
                have hpl := HST.out.lay.pl
                dsimp only at hpl
                rcases hb with hb | hb
                · have h := (HA2.out b).1 hb
                  exact ⟨by omega, (HI.out b h.1).2⟩
                · refine ⟨hb.2, fun e => by dsimp only at e; omega, fun i e => ?_⟩
                  have h := HST.out.lay.al i b e
                  omega)
              (fun l hl => by
                rw [← hlsm, List.mem_map] at hl
                obtain ⟨l0, h1, rfl⟩ := hl
                have h2 := HLN.out l0 h1
                rw [List.length_take, List.length_drop]
                omega) (by rw [hlml]; exact hr2) hm0 hm1
            obtain ⟨PN, hPN⟩ : ∃ PN, pieceN g order st lsm m = PN := ⟨_, rfl⟩
            have hokP : GOk g order PN.2 := by rw [← hPN]; exact gok_piece HRU.out.stR.ok _ _
            rw [hlml, hPN] at PC
            have HPC := Lib.hid PC
            have HPN := Lib.hid hPN
            have HOKP := Lib.hid hokP
            clear PC hPN hokP hlsm HIN3 hlml hvl
            go_upto_region 16 with (go_at_call 26; refine (HPC.out).mono ?_; rintro ez w5 ⟨rfl, hns5, hpr5, hfr5⟩)
            obtain ⟨rb, hpr⟩ := hpr5.out
            have HPR := Lib.hid hpr
            have HF5 : Hid (Fr (fun b => (∃ i, A i b) ∨ b = pb) w0 w5) := HRU.out.fr.trans hfr5.out
            have hXl : ∀ b, ((∃ i, A i b) ∨ b = pb) → b < w0.heap.size := by
              rintro b (⟨i, e⟩ | e)
              · exact HST.out.lay.al i b e
              · rw [e]; exact HST.out.lay.pl
            have HXL := Lib.hid hXl
            have hub0 : w0.heap.size < ub := by rw [HNBS.out]; exact hnu
            have hub1 : ub < wu.heap.size := lt_of HRU.out.outsR.cell
            have HOU5 : Hid (OutsR w5 ub ub us outs) := HRU.out.outsR.fr hfr5.out (fun b hb e => by have h := hXl b e; omega)
            have HNB5 : Hid (w5.heap[nb]? = some (.cells #[.int .i64 (nn : Int)] 3 (0, 0))) := hfr5.out.row HRU.out.nb (fun e => by have h := hXl _ e; have h2 := HNBS.out; unfold Hid at h2; omega)
            have HGS5 : Hid (GSt w5 Z A ⟨gb, pb, na, nc, oa, oc, va, vc, ra, rc⟩ g order chunk vs PN.2) := by
              obtain ⟨rows, h1, h2, h3⟩ := hpr.row
              refine ⟨HST.out.c.fr HF5.out hZX, hns5.out, ⟨rows, h1, by rw [h2]⟩, Lay.mono HST.out.lay HF5.out.size, HOKP.out, HST.out.chunk⟩
            obtain ⟨SU, hSU⟩ : ∃ SU, wu.heap.size = SU := ⟨_, rfl⟩
            have hsz5 : SU ≤ w5.heap.size := by rw [← hSU]; exact hfr5.out.size
            have HOB5 : Hid (∀ (i : Nat) (v : Value) (b : Nat), us[i]? = some v → v.ownBlock = some b → b < SU ∨ w5.heap.size ≤ b) := fun i v b hv hb => by
              obtain ⟨l, hl⟩ : ∃ l, outs[i]? = some l := ⟨outs[i]'(by rw [← HRU.out.outsR.len]; exact (List.getElem?_eq_some_iff.1 hv).1), List.getElem?_eq_getElem _⟩
              obtain ⟨ys, h1, _⟩ := HRU.out.outsR.val i v l hv hl
              have := (own_base h1 hb).2
              exact .inl (by omega)
            have HOL5 : Hid (outs.length = M) := by unfold Hid; rw [HRU.out.ol, HM.out]
            have HOA5 : Hid (∀ l ∈ outs, l.length = a) := HRU.out.oa
            have d2 := HF5.out.cell c2 (hZX gb hZG)
            have HSU := Lib.hid hSU
            rw [hSU] at hpr hub1
            replace HPR := Lib.hid hpr
            clear hpr hpr5 hns5 hXl hSU
            go_wp2_with fail
            go_loopw [14, 15, 79] (fun v14 v15 v79 wr => ∃ (k : Nat) (us3 : List Value), k ≤ M ∧ v79 = .int .i64 (k : Int) ∧ Hid (OutsR wr ub ub us3 (outsK PN.1 g.outs outs k)) ∧ Hid (∀ (i : Nat) (v : Value) (b : Nat), us3[i]? = some v → v.ownBlock = some b → b < SU ∨ w5.heap.size ≤ b) ∧ Hid (Fr (fun b => ub ≤ b ∧ b < SU) w5 wr)) (fun _ _ v79 _ => M - (intOf v79).toNat)
            case atStart => exact ⟨0, us, Nat.zero_le _, rfl, by unfold Hid; rw [outsK_zero]; exact HOU5.out, HOB5.out, Fr.refl _ _⟩
            case round =>
              obtain ⟨k, us3, hk, rfl, HO3, HB3, HF3⟩ := hrel
              obtain ⟨wv, hwv⟩ : ∃ wv : World, wv = wr := ⟨_, rfl⟩
              subst hwv
              by_cases hkM : k = M
              · have h2 := hkM
                subst h2
                clear hkM
                have HR9 : Hid (RSt w0 wv Z A ⟨gb, pb, na, nc, oa, oc, va, vc, ra, rc⟩ g order chunk vs nn ls sts nb ub ub (a + m) f2 PN.2 us3 (List.zipWith (fun o (z : Int) => o ++ PN.1.getD z.toNat []) outs g.outs)) := by
                  have hlb : ∀ b, ub ≤ b ∧ b < SU → w0.heap.size ≤ b := fun b hb => by omega
                  refine ⟨HGS5.out.fr HF3.out (fun b hb => ?_), ?_, ?_, fun l hl => ?_, HF3.out.row HNB5.out (fun e => by omega), fr_trans2 HF5.out HF3.out (fun i hi => .inr (hlb i hi)), ?_, ?_⟩
                  · have h9 := hlb b hb
                    refine ⟨fun e => ?_, fun i e => ?_, fun e => ?_⟩
                    · have := HST.out.lay.zl b e
                      omega
                    · have := HST.out.lay.al i b e
                      omega
                    · have := HST.out.lay.pl
                      dsimp only at e this
                      omega
                  · have h := HO3.out
                    rw [outsK_full _ _ _ HOL5.out HM.out] at h
                    exact h
                  · rw [List.length_zipWith, HOL5.out, HM.out, Nat.min_self]
                  · obtain ⟨i, hi⟩ := List.mem_iff_getElem?.1 hl
                    rw [List.getElem?_zipWith] at hi
                    cases h1 : outs[i]? with
                    | none => rw [h1] at hi; cases hi
                    | some o1 =>
                      cases h2 : g.outs[i]? with
                      | none => rw [h1, h2] at hi; cases hi
                      | some z1 =>
                        rw [h1, h2] at hi
                        simp only [Option.some.injEq] at hi
                        subst hi
                        have h3 := HOKP.out.outs.2 z1 (List.mem_of_getElem? h2)
                        obtain ⟨zn, rfl⟩ : ∃ zn : Nat, z1 = (zn : Int) := Int.eq_ofNat_of_zero_le h3.1
                        obtain ⟨ys, l6, h4, h5, h6, h7⟩ := HPR.out.val zn (by omega)
                        rw [List.length_append, HOA5.out o1 (List.mem_of_getElem? h1), getd_in rfl h6, ← h7, List.length_map, h5]
                  · rw [HR.out.eq]
                    conv => lhs; unfold chunksN
                    rw [if_pos hal2]
                    dsimp only
                    rw [HMI.out, HLSM.out, HPN.out]
                  · have := HR.out.fuel
                    omega
                go_wp2_with fail
                refine ⟨⟨a + m, f2, PN.2, us3, _, by omega, by simp, HR9.out⟩, by simp [intOf]; omega⟩
              have hkl : (k : Int) < (M : Int) := by omega
              have hkl2 : k < M := by omega
              have hwk : IntKind.i64.wrap ((k : Int) + 1) = (k : Int) + 1 := IntWalk.i64_in _ (by omega)
              obtain ⟨oz, hoz⟩ : ∃ oz, g.outs[k]? = some oz := ⟨g.outs[k]'(by rw [HM.out]; exact hkl2), List.getElem?_eq_getElem _⟩
              have hoz2 := HOKP.out.outs.2 oz (List.mem_of_getElem? hoz)
              obtain ⟨on, rfl⟩ : ∃ on : Nat, oz = (on : Int) := Int.eq_ofNat_of_zero_le hoz2.1
              have honN : on < N := by have h := hoz2.2; rw [HN.out] at h; omega
              obtain ⟨b9, o9, ho9, hZ9, hocell⟩ := sla_at HST.out.c.outs hoz
              dsimp only at ho9
              subst ho9
              have hlz : ∀ b, Z b → b < w0.heap.size := fun b hb => HST.out.lay.zl b hb
              have g0 := HF5.out.cell (hocell 0 _ rfl) (hZX b9 hZ9)
              have g1 := HF3.out.cell g0 (fun e => by have h := hlz b9 hZ9; dsimp only at e; omega)
              rw [Nat.mul_one, Nat.add_zero] at g1
              have e60 := HF5.out.cell c6 (hZX gb hZG)
              have e6 := HF3.out.cell e60 (fun e => by have h := hlz gb hZG; dsimp only at e; omega)
              have hpl := HST.out.lay.pl
              dsimp only at hpl
              have e7 := HF3.out.cell (HPR.out.at (by rw [HN.out]; exact honN)) (fun e => by dsimp only at e; omega)
              obtain ⟨ys6, l6, hr60, hl6, hp6, hc6⟩ := HPR.out.val on (by rw [HN.out]; exact honN)
              have hrbB := HPR.out.base on (by rw [HN.out]; exact honN)
              have hr6 := hr60.fr HF3.out (fun e => by omega)
              obtain ⟨rk, hrk⟩ : ∃ rk, rb on = rk := ⟨_, rfl⟩
              rw [hrk] at e7 hr6 hrbB
              obtain ⟨lk, hlk⟩ : ∃ lk, outs[k]? = some lk := ⟨outs[k]'(by rw [HOL5.out]; exact hkl2), List.getElem?_eq_getElem _⟩
              obtain ⟨hok1, hok2⟩ := outsK_next (p := PN.1) (by rw [HOL5.out, HM.out]) hlk hoz
              rw [getd_in rfl hp6] at hok2
              have hus : k < us3.length := by rw [HO3.out.len]; exact (List.getElem?_eq_some_iff.1 hok1).1
              obtain ⟨v3, hv3⟩ : ∃ v3, us3[k]? = some v3 := ⟨us3[k]'hus, List.getElem?_eq_getElem _⟩
              obtain ⟨ys3, hown3, hmap3⟩ := HO3.out.val k v3 lk hv3 hok1
              have hys3 : ys3.length = a := by
                have h := congrArg List.length hmap3
                rw [List.length_map, HOA5.out lk (List.mem_of_getElem? hlk)] at h
                exact h
              rw [hys3] at hown3
              obtain ⟨a3, c3, rfl⟩ := own_slice hown3
              have hu3 : wv.cell? ⟨ub, k, none⟩ = some (.slice a3 a c3) := by rw [cell_of HO3.out.cell]; simpa using hv3
              have hne3 := HO3.out.own k _ hv3
              have HOWN3 := Lib.hid hown3
              have HNE3 := Lib.hid hne3
              have HV3 := Lib.hid hv3
              have HOK1 := Lib.hid hok1
              have HOK2 := Lib.hid hok2
              have HMAP3 := Lib.hid hmap3
              have HYS3 := Lib.hid hys3
              have HL6 := Lib.hid hl6
              have HC6 := Lib.hid hc6
              have HR6 := Lib.hid hr6
              have HUSL := Lib.hid hus
              obtain ⟨X3, hX3⟩ : ∃ X3 : Nat → Prop, (fun b => b = ub ∨ (Value.slice a3 a c3).ownBlock = some b) = X3 := ⟨_, rfl⟩
              have HX3 : Hid (∀ b, X3 b ↔ (b = ub ∨ (Value.slice a3 a c3).ownBlock = some b)) := fun b => by rw [← hX3]
              have HXB : Hid (∀ b, X3 b → ub ≤ b) := fun b hb => by
                rcases (HX3.out b).1 hb with e | e
                · omega
                · exact (own_base HOWN3.out e).1
              have hgx : ¬ X3 gb := fun e => by have h := HXB.out gb e; have h2 := hlz gb hZG; omega
              have hpx : ¬ X3 pb := fun e => by have h := HXB.out pb e; omega
              clear hoz hocell g0 e60 hr60 hr6 hl6 hp6 hc6 hlk hok1 hok2 hv3 hown3 hmap3 hne3 hys3 hus hX3 hrk hoz2
              have e6' : wv.cell? ⟨gb, 6, none⟩ = some (.slice (some ⟨pb, 0, none⟩) N N) := e6
              have hne := LaterX.nonempty X3 wv
              have k1 : ∀ n2 : LaterX X3 wv, n2.w.cell? ⟨gb, 6, none⟩ = some (.slice (some ⟨pb, 0, none⟩) N N) := LaterX.cell e6' hgx
              have k2 : ∀ n2 : LaterX X3 wv, n2.w.cell? ⟨pb, on, none⟩ = some (.slice (some ⟨rk, 0, none⟩) m m) := LaterX.cell e7 hpx
              have hok38 : (on : Int) < (N : Int) := by omega
              go_upto_region 19 with fail
              refine Mixed.wp_region_mixed (lateX X3 wv) (fun k => k == 5 || k == 13 || k == 15) (by kernel_rfl) (by kernel_rfl) ⟨⟨wv.drew, fr_drewN (Fr.refl _ _) 1⟩, rfl⟩ ?_
              unfold lateX
              refine Mixed.wpM_quiet rfl rfl rfl ?_; intro Kx hKx; go_big_quiet_op; go_big_quiet_on
              refine Mixed.wpM_quiet rfl rfl rfl ?_; intro Kx hKx; go_big_quiet_op; go_big_quiet_on
              refine Mixed.wpM_quiet rfl rfl rfl ?_; intro Kx hKx; go_big_quiet_op; go_big_quiet_on
              refine Mixed.wpM_quiet rfl rfl rfl ?_; intro Kx hKx; go_big_quiet_op; go_big_quiet_on
              refine Mixed.wpM_quiet rfl rfl rfl ?_; intro Kx hKx; go_big_quiet_op; go_big_quiet_on
              refine Mixed.wpM_make rfl rfl (.slice a3 a c3) wv.drew (by go_simp) ⟨⟨wv.drew, fr_drewN (Fr.refl _ _) 1⟩, rfl⟩ ?_
              go_simp
              refine Mixed.wpM_quiet rfl rfl rfl ?_; intro Kx hKx; go_big_quiet_op; go_big_quiet_on
              refine wpM_nc rfl rfl _ ⟨gb, 0, none⟩ rfl rfl ?_
              go_simp
              refine Mixed.wpM_quiet rfl rfl rfl ?_; intro Kx hKx; go_big_quiet_op; go_big_quiet_on
              refine Mixed.wpM_quiet rfl rfl rfl ?_; intro Kx hKx; go_big_quiet_op; go_big_quiet_on
              refine Mixed.wpM_quiet rfl rfl rfl ?_; intro Kx hKx; go_big_quiet_op; go_big_quiet_on
              refine Mixed.wpM_quiet rfl rfl rfl ?_; intro Kx hKx; go_big_quiet_op; go_big_quiet_on
              refine Mixed.wpM_quiet rfl rfl rfl ?_; intro Kx hKx; go_big_quiet_op; go_big_quiet_on
              refine wpM_append_in rfl rfl _ _ 38 rfl ub 46 i0 (.float .f64 0) 1 8 Try.underlying38 hi hz0 hz1 hz2 rfl (by decide) (.slice a3 a c3) a (flC fC ys3) rfl (own_kept HOWN3.out (grown_drew (grown_refl _ _))) (some ⟨rk, 0, none⟩) m m (flC fC ys6) rfl (by rw [flC_len fC_len, HL6.out]) (news_sl fC_len (by decide) (RowF.fl (A := AnyB) (HR6.out.fr (X := fun _ => False) (.none (grown_drew (grown_refl _ _))) id) HL6.out trivial m)) (fun u hu => by
                rw [flC_f, List.mem_map] at hu
                obtain ⟨_, _, rfl⟩ := hu
                rfl) (by unfold maxLen; omega) (by omega) (by have h := lt_of HO3.out.cell; have h2 : wv.drew.heap.size = wv.heap.size := rfl; omega) ?_
              intro a7 c7 w7 ho7 hg7 hb7
              have hg7' : Fr X3 wv w7 := (Fr.none (grown_drew (grown_refl _ _))).trans (.of hg7 (fun i e => (HX3.out i).2 (.inr e)))
              refine ⟨⟨⟨w7, hg7'⟩, rfl⟩, ?_⟩
              go_simp
              refine Mixed.wpM_quiet rfl rfl rfl ?_; intro Kx hKx; go_big_quiet_op; go_big_quiet_on
              have hub7 : w7.heap[ub]? = some (.cells us3.toArray 38 (0, 0)) := row_kept hg7 (show wv.drew.heap[ub]? = _ from HO3.out.cell) (fun e => HNE3.out e.symm)
              have hpc : w7.cell? ⟨ub, k, none⟩ = some (.slice a3 a c3) := by rw [cell_of hub7]; simpa using HV3.out
              have hpf := free_of hub7 k
              refine wpM_store rfl rfl (w7.setCell ⟨ub, k, none⟩ (.slice a7 (a + m) c7)) (by go_simp) ⟨⟨_, fr_set (p := ⟨ub, k, none⟩) hg7' (.inl ((HX3.out ub).2 (.inl rfl))) _⟩, rfl⟩ ?_
              refine Mixed.wpM_nil ?_
              intro nx hnx
              dsimp only [Act.put]
              clear nx hnx k1 k2 hne hpc hpf
              have hsd : wv.drew.heap.size = wv.heap.size := rfl
              have hne7 : ∀ b, (Value.slice a7 (a + m) c7).ownBlock = some b → b ≠ ub := fun b hb e => by
                subst e
                rcases hb7 with h | h
                · exact HNE3.out (by rw [← h]; exact hb)
                · rw [hb] at h
                  injection h with h
                  have := lt_of HO3.out.cell
                  omega
              have HFX : Hid (Fr X3 wv (w7.setCell ⟨ub, k, none⟩ (.slice a7 (a + m) c7))) := fr_set (p := ⟨ub, k, none⟩) hg7' (.inl ((HX3.out ub).2 (.inl rfl))) _
              have HO4 : Hid (OutsR (w7.setCell ⟨ub, k, none⟩ (.slice a7 (a + m) c7)) ub ub (us3.set k (.slice a7 (a + m) c7)) (outsK PN.1 g.outs outs (k + 1))) := by
                unfold Hid
                rw [HOK2.out]
                refine HO3.out.next (zs := ys3 ++ ys6) HV3.out HOK1.out (HFX.out.mono (fun b hb => (HX3.out b).1 hb)) (set_self hub7 _) ?_ (by rw [List.map_append, HMAP3.out, HC6.out]) (hb7.imp id (fun h b hb => by
                  rw [h] at hb
                  injection hb with hb
                  omega))
                rw [List.length_append, HYS3.out, HL6.out, flC_append]
                exact own_fr ho7 (X := fun b => b = ub) (fr_set (X := fun b => b = ub) (p := ⟨ub, k, none⟩) (Fr.refl _ _) (.inl rfl) _) (fun b hb e => hne7 b hb e)
              have HB4 : Hid (∀ (i : Nat) (v : Value) (b : Nat), (us3.set k (.slice a7 (a + m) c7))[i]? = some v → v.ownBlock = some b → b < SU ∨ w5.heap.size ≤ b) := fun i v b hv hb => by
                by_cases e : k = i
                · subst e
                  rw [List.getElem?_set_self HUSL.out] at hv
                  injection hv with hv
                  subst hv
                  rcases hb7 with h | h
                  · rw [h] at hb
                    exact HB3.out k _ b HV3.out hb
                  · rw [h] at hb
                    injection hb with hb
                    have := HF3.out.size
                    right
                    omega
                · rw [List.getElem?_set_ne e] at hv
                  exact HB3.out i v b hv hb
              have HF4 : Hid (Fr (fun b => ub ≤ b ∧ b < SU) w5 (w7.setCell ⟨ub, k, none⟩ (.slice a7 (a + m) c7))) := fr_trans2 HF3.out HFX.out (fun b hb => by
                rcases (HX3.out b).1 hb with e | e
                · left
                  omega
                · have h1 := (own_base HOWN3.out e).1
                  rcases HB3.out k _ b HV3.out e with h | h
                  · exact .inl ⟨h1, h⟩
                  · exact .inr h)
              obtain ⟨w8, hw8⟩ : ∃ w8, w7.setCell ⟨ub, k, none⟩ (.slice a7 (a + m) c7) = w8 := ⟨_, rfl⟩
              rw [hw8] at HO4 HF4
              simp only [hw8]
              clear hw8 hub7 ho7 hg7 hg7' hb7 hne7 HFX
              go_wp2_with fail
              refine ⟨?_, by simp [intOf]; omega⟩
              first
                | exact ⟨k + 1, _, by omega, rfl, HO4.out, HB4.out, HF4.out⟩
                | (repeat apply Exists.intro
                   refine ⟨?_, rfl⟩
                   exact ⟨k + 1, _, by omega, rfl, HO4.out, HB4.out, HF4.out⟩)
          have hql : (q : Int) < (L : Int) := by omega
          have hql2 : q < L := by omega
          have hwq : IntKind.i64.wrap ((q : Int) + 1) = (q : Int) + 1 := IntWalk.i64_in _ (by omega)
          have hwam : IntKind.i64.wrap ((a : Int) + (m : Int)) = ((a + m : Nat) : Int) := by rw [IntWalk.i64_in _ (by omega)]; omega
          obtain ⟨l, hl⟩ : ∃ l, ls[q]? = some l := ⟨ls[q]'(by rw [HL.out]; exact hql2), List.getElem?_eq_getElem _⟩
          have hll : l.length = nn := by have := HLN.out l (List.mem_of_getElem? hl); omega
          obtain ⟨b6, o6, ro, rc6, rfl, hI6, hcell6, hrc6, hcf6⟩ := ins_at HINY.out hl
          obtain ⟨b7, o7, rfl, hcf⟩ := slice_pos hcf6 hrc6 a m (by omega) hm0
          rw [hll] at hcell6 hrc6
          have hra : ¬ rc6 = a := by omega
          have u1 := grown_cell HGX.out hcell6 (by simp)
          obtain ⟨oa2, oc2, rfl⟩ := own_slice HU.out.own
          have hvl : vs2.length = q := by rw [HU.out.len, List.length_map, List.length_take, HL.out]; omega
          have HOW : Hid (wu.ownsRow wy.heap.size 38 1 (.slice oa2 q oc2) q (flC vC vs2)) := by unfold Hid; have h := HU.out.own; rw [hvl] at h; exact h
          have HVL := Lib.hid hvl
          rw [hvl]
          have HGA2 : Hid (wu.grownBy (wu.alloc (.cells #[.slice (some ⟨b7, o7 + a, none⟩) m (rc6 - a)] 38)) none) := grown_alloc (grown_refl _ _) _
          have HLP : Hid (CFl wu A2 (.slice (some ⟨b7, o7 + a, none⟩) m (rc6 - a)) ((l.drop a).take m)) := (hcf.mono (fun b hb => (HA2.out b).2 ⟨hb, by have h := (HI.out b hb).1; have h2 := HRY.out.fr.size; omega⟩)).grown HGX.out
          have HTK : Hid ((ls.take (q + 1)).map (fun l => (l.drop a).take m) = ((ls.take q).map fun l => (l.drop a).take m) ++ [(l.drop a).take m]) := by
            unfold Hid
            rw [take_next hl, List.map_append, List.map_singleton]
          clear hl hcell6 hcf6 hcf hvl
          go_upto_region 14 with (at_builtin; refine wpList_append_own_at _ rfl _ _ 32 rfl wy.heap.size 38 j0 (.slice none 0 0) 1 24 Try.underlying32 hj38 hj0 hj1 hj2 rfl (by decide) (.slice oa2 q oc2) q (flC vC vs2) rfl (own_kept HOW.out HGA2.out) ⟨wu.heap.size, 0, none⟩ 1 1 [.slice (some ⟨b7, o7 + a, none⟩) m (rc6 - a)] rfl rfl (fun j u hu => by rw [show ((⟨wu.heap.size, 0, none⟩ : Addr).add j) = ⟨wu.heap.size, 0 + j, none⟩ from Addr.add_lit _ _ _, Nat.zero_add, cell_of (heap_alloc_new _ _), ← Array.getElem?_toList]; exact hu) (by simp [Value.oneCell']) (by unfold maxLen; omega) (by omega) (by have h1 := HGX.out.size; have h2 := HGA2.out.size; omega) ?_; intro v11 w11 ho11 hg11 _ hb11; obtain ⟨oa3, oc3, rfl⟩ := own_slice ho11)
          have HFIN : Hid (HrR w11 wy.heap.size A2 (.slice oa3 (q + 1) oc3) (vs2 ++ [.slice (some ⟨b7, o7 + a, none⟩) m (rc6 - a)]) ((ls.take (q + 1)).map fun l => (l.drop a).take m)) := by
            unfold Hid
            rw [HTK.out]
            refine (HU.out.grown HGA2.out).next (by rw [HVL.out]; exact ho11) (.of hg11 (fun i e => by rw [HVL.out]; exact e)) (HLP.out.grown HGA2.out) (fun b hb e => ?_)
            rw [HVL.out] at e
            have h1 := ((HA2.out b).1 hb).2
            have h2 := (own_base HOW.out e).1
            omega
          have HGN : Hid (wy.grownBy w11 none) := grown_own (grown_trans HGX.out HGA2.out) (own_kept HOW.out HGA2.out) (Nat.le_refl _) hg11
          go_wp2_with fail
          refine ⟨?_, by simp [intOf]; omega⟩
          first
            | exact ⟨q + 1, _, by omega, rfl, HFIN.out, HGN.out⟩
            | (repeat apply Exists.intro
               refine ⟨?_, rfl⟩
               exact ⟨q + 1, _, by omega, rfl, HFIN.out, HGN.out⟩)
  · have HE := Lib.hid (runG_bad (order := order) (chunk := chunk) (sts := sts) (r := 8) (show rightE g ls n = 8 by unfold rightE; rw [if_neg hr1, if_pos (by rw [HL.out]; exact hr2)]) (by decide))
    rw [HRG.out] at HE
    obtain ⟨gi, hgi⟩ : ∃ gi, g.ins = gi := ⟨_, rfl⟩
    rw [hgi] at y0 hr2
    clear hgi
    go_wp2_with fail
    go_ret2
    exact ⟨.slice none 0 0, by rw [HE.out]; rfl, by rw [HE.out]; exact nilO _ _, by rw [HE.out]; exact HST.out.grown HGA.out, .none HGA.out⟩
end Go.Proofs.Ytdliilmnfbgplaa.GRun

/- All nodes of a graph are brought to rest: the walk. -/
namespace Go.Proofs.Ytdliilmnfbgplaa.GRest
open Go Go.RowKit Go.Proofs.Ytdliilmnfbgplaa.Fl Go.Proofs.Ytdliilmnfbgplaa.Fw Go.Proofs.Ytdliilmnfbgplaa.GRd Go.Proofs.Ytdliilmnfbgplaa.GCells Go.Proofs.Ytdliilmnfbgplaa.GStep Go.Proofs.Ytdliilmnfbgplaa.GMod Go.Proofs.Ytdliilmnfbgplaa.GMem Go.Proofs.Ytdliilmnfbgplaa.GNode Go.Proofs.Ytdliilmnfbgplaa.GNode2 Go.Proofs.Ytdliilmnfbgplaa.GNode3 Go.Proofs.Ytdliilmnfbgplaa.GNode4 Go.Proofs.Ytdliilmnfbgplaa.GPMem Go.Proofs.Ytdliilmnfbgplaa.GPState Go.Proofs.Ytdliilmnfbgplaa.GPiece Go.Proofs.Ytdliilmnfbgplaa.GRunF Go.Proofs.Ytdliilmnfbgplaa.GOuts Go.Proofs.Ytdliilmnfbgplaa.GSub Go.Proofs.Ytdliilmnfbgplaa.GRun Go.Proofs.Ytdliilmnfbgplaa.Hp Go.Proofs.Ytdliilmnfbgplaa.Rd Go.Proofs.Ytdliilmnfbgplaa.Opn
set_option linter.unusedVariables false
set_option linter.unusedSimpArgs false

/-- The first k of them at rest. -/
def restK (sts : List NS) (k : Nat) : List NS := (sts.take k).map restN ++ sts.drop k
theorem restK_zero (sts : List NS) : restK sts 0 = sts := by simp [restK]
theorem restK_full (sts : List NS) {k : Nat} (h : sts.length ≤ k) : restK sts k = sts.map restN := by
  unfold restK
  rw [List.take_of_length_le h, List.drop_of_length_le h, List.append_nil]
theorem restK_next {sts : List NS} {k : Nat} {s : NS} (h : sts[k]? = some s) : (restK sts k)[k]? = some s ∧ restK sts (k + 1) = (restK sts k).set k (restN s) := by
  have hk := (List.getElem?_eq_some_iff.1 h).1
  have hl : ((sts.take k).map restN).length = k := by simp; omega
  have hd : sts.drop k = s :: sts.drop (k + 1) := by
    rw [List.drop_eq_getElem_cons hk]
    rw [List.getElem?_eq_getElem hk] at h
    injection h with h
    rw [h]
  constructor
  · unfold restK
    rw [List.getElem?_append_right (by omega), hl, Nat.sub_self, hd]
    rfl
  · unfold restK
    rw [List.set_append_right _ _ (by omega), hl, Nat.sub_self, hd, take_next h, List.map_append, List.append_assoc]
    rfl
theorem fits_rest {g : Gd} {x : Nd} {s : NS} (h : Fits g x s) : Fits g x (restN s) := by
  cases s <;> first | exact h | (obtain ⟨h1, h2, h3, h4⟩ := h; exact ⟨(fun _ => h1 rfl), (fun e => by cases e), (fun k e => by cases e), (fun _ => h4 (fun k e => by cases e))⟩) | (obtain ⟨h1, h2, h3, h4⟩ := h; exact ⟨(fun e => by cases e), (fun e => h2 rfl), (fun k e => by cases e), (fun _ => h4 (fun k e => by cases e))⟩)
theorem gok_rest {g : Gd} {order : List Nat} {sts : List NS} (h : GOk g order sts) : GOk g order (sts.map restN) :=
  ⟨h.small, by rw [List.length_map]; exact h.len, fun i x s hx hs => by
    rw [List.getElem?_map] at hs
    cases hq : sts[i]? with
    | none => rw [hq] at hs; cases hs
    | some s' =>
      rw [hq] at hs
      simp at hs
      subst hs
      exact fits_rest (h.fits i x s' hx hq), h.refs, h.ord, h.ordl, h.nodup, h.self, h.outs, h.ins⟩

/-- Where the nodes stand while they are brought to rest. -/
structure ReS (w0 wr : World) (Z : Nat → Prop) (A : Nat → Nat → Prop) (pb : Nat) (vs : List Value) (sts : List NS) (k : Nat) (A2 : Nat → Nat → Prop) : Prop where
  ns : NsR wr A2 vs (restK sts k)
  lay : Lay wr Z A2 pb
  fr : Fr (fun b => ∃ i, A i b) w0 wr
  new : ∀ i b, A2 i b → A i b ∨ w0.heap.size ≤ b

def RestPost (w0 : World) (Z : Nat → Prop) (A : Nat → Nat → Prop) (h : Hn) (g : Gd) (order : List Nat) (chunk : Nat) (vs : List Value) (sts : List NS) (e : Ending) (w' : World) : Prop :=
  e = .returned (.tuple #[]) ∧ ∃ A2, Hid (GSt w' Z A2 h g order chunk vs (sts.map restN)) ∧ Hid (Fr (fun b => ∃ i, A i b) w0 w') ∧ ∀ i b, A2 i b → A i b ∨ w0.heap.size ≤ b

theorem ReS.next {w0 wr w2 : World} {Z : Nat → Prop} {A : Nat → Nat → Prop} {pb : Nat} {vs : List Value} {sts : List NS} {k : Nat} {A2 : Nat → Nat → Prop} (h : ReS w0 wr Z A pb vs sts k A2) {v : Value} {s : NS} (hv : vs[k]? = some v) (hs : sts[k]? = some s)
    (hn : NodeR w2 (fun b => A2 k b ∨ wr.heap.size ≤ b) v (restN s)) (hf : Fr (A2 k) wr w2) : ReS w0 w2 Z A pb vs sts (k + 1) (fun i b => A2 i b ∨ (i = k ∧ wr.heap.size ≤ b ∧ b < w2.heap.size)) := by
  obtain ⟨h1, h2⟩ := restK_next hs
  have hl := h.lay
  have hal := hl.al
  have hzl := hl.zl
  have hpl := hl.pl
  refine ⟨?_, ⟨hl.zp, fun i b hz => ?_, fun i => ?_, fun i j b h3 h4 => ?_, fun b hz => Nat.lt_of_lt_of_le (hzl b hz) hf.size, fun i b h3 => ?_, Nat.lt_of_lt_of_le hpl hf.size⟩, ?_, fun i b h3 => ?_⟩
  · rw [h2]
    have hns : NsR wr (fun i b => A2 i b ∨ (i = k ∧ wr.heap.size ≤ b ∧ b < w2.heap.size)) vs (restK sts k) := ⟨h.ns.1, fun i v' s' hv' hs' => (h.ns.2 i v' s' hv' hs').mono (fun b _ hb => .inl hb)⟩
    refine hns.set (X := A2 k) hv (hn.mono fun b hb hb2 => ?_) hf (fun j b hj hb => ?_)
    · rcases hb2 with e | e
      · exact .inl e
      · exact .inr ⟨rfl, e, hb⟩
    · rcases hb with e | ⟨e, _⟩
      · exact fun e2 => hj (hl.aa j k b e e2)
      · exact absurd e hj
  · rintro (e | ⟨_, e, _⟩)
    · exact hl.za i b hz e
    · have := hzl b hz
      omega
  · rintro (e | ⟨_, e, _⟩)
    · exact hl.ap i e
    · omega
  · rcases h3 with e | ⟨rfl, e, _⟩
    · rcases h4 with e2 | ⟨rfl, e2, _⟩
      · exact hl.aa i j b e e2
      · have := hal i b e
        omega
    · rcases h4 with e2 | ⟨rfl, e2, _⟩
      · have := hal j b e2
        omega
      · rfl
  · rcases h3 with e | ⟨_, _, e⟩
    · exact Nat.lt_of_lt_of_le (hal i b e) hf.size
    · exact e
  · refine fr_trans2 h.fr hf (fun b hb => ?_)
    rcases h.new k b hb with e | e
    · exact .inl ⟨k, e⟩
    · exact .inr e
  · rcases h3 with e | ⟨_, e, _⟩
    · exact h.new i b e
    · have := h.fr.size
      exact .inr (by omega)
theorem ReS.same {w0 wr : World} {Z : Nat → Prop} {A : Nat → Nat → Prop} {pb : Nat} {vs : List Value} {sts : List NS} {k : Nat} {A2 : Nat → Nat → Prop} (h : ReS w0 wr Z A pb vs sts k A2) {s : NS} (hs : sts[k]? = some s) (hr : restN s = s) : ReS w0 wr Z A pb vs sts (k + 1) A2 := by
  obtain ⟨h1, h2⟩ := restK_next hs
  refine ⟨?_, h.lay, h.fr, h.new⟩
  rw [h2, hr]
  rw [show (restK sts k).set k s = restK sts k from by
    apply List.ext_getElem?
    intro i
    by_cases e : k = i
    · subst e
      rw [List.getElem?_set_self (List.getElem?_eq_some_iff.1 h1).1, h1]
    · rw [List.getElem?_set_ne e]]
  exact h.ns

set_option maxHeartbeats 4000000 in
set_option maxRecDepth 100000 in
theorem rest_calls (Z : Nat → Prop) (A : Nat → Nat → Prop) (h : Hn) (g : Gd) (order : List Nat) (chunk : Nat) (vs : List Value) (sts : List NS) (w0 : World) (hst : GSt w0 Z A h g order chunk vs sts) :
    Calls Try.prog 14 #[.pointer (some ⟨h.gb, 0, none⟩)] w0 fun e w' => RestPost w0 Z A h g order chunk vs sts e w' := by
  obtain ⟨gb, pb, na, nc, oa, oc, va, vc, ra, rc⟩ := h
  have HST := Lib.hid hst
  have hcell := hst.c.cell
  dsimp only at hcell
  obtain ⟨N, hN⟩ : ∃ N, g.nodes.length = N := ⟨_, rfl⟩
  rw [hN] at hcell
  have HN := Lib.hid hN
  have c3 := cell_of hcell 3
  have hN2 : N ≤ 256 := by rw [← hN]; exact hst.ok.small
  have HVL : Hid (vs.length = N) := hst.c.len.trans hN
  have HSL : Hid (sts.length = N) := hst.ok.len.trans hN
  have HR0 : Hid (ReS w0 w0 Z A pb vs sts 0 A) := ⟨by rw [restK_zero]; exact hst.ns, hst.lay, Fr.refl _ _, fun _ _ h => .inl h⟩
  clear hst hcell hN
  go_enter Try.func14, Try.ntmps14
  go_wp2_with fail
  go_loopw [3, 4, 5, 11, 15] (fun v3 v4 v5 v11 v15 wr => ∃ (k : Nat) (A2 : Nat → Nat → Prop), k ≤ N ∧ v11 = .int .i64 (k : Int) ∧ Hid (ReS w0 wr Z A pb vs sts k A2)) (fun _ _ _ v11 _ _ => N - (intOf v11).toNat)
  case atStart => exact ⟨0, A, Nat.zero_le _, rfl, HR0.out⟩
  case round =>
    obtain ⟨k, A2, hk, rfl, HR⟩ := hrel
    obtain ⟨wz, hwz⟩ : ∃ wz : World, wz = wr := ⟨_, rfl⟩
    subst hwz
    by_cases hkN : k = N
    · subst hkN
      have HEN := HR.out.ns
      rw [restK_full sts (Nat.le_of_eq HSL.out)] at HEN
      have HE := Lib.hid HEN
      clear HEN
      go_wp2_with fail
      go_end0
      have hzx : ∀ b, Z b → ¬ ∃ i, A i b := fun b hb => by
        rintro ⟨i, e⟩
        exact HST.out.lay.za i b hb e
      obtain ⟨rows, p1, p2⟩ := HST.out.past
      exact ⟨rfl, A2, ⟨HST.out.c.fr HR.out.fr hzx, HE.out, ⟨rows, HR.out.fr.row p1 (fun e => by obtain ⟨i, e⟩ := e; exact HST.out.lay.ap i e), p2⟩, HR.out.lay, gok_rest HST.out.ok, HST.out.chunk⟩, HR.out.fr, HR.out.new⟩
    have hkl : (k : Int) < (N : Int) := by omega
    have hkl2 : k < N := by omega
    have hwk : IntKind.i64.wrap ((k : Int) + 1) = (k : Int) + 1 := IntWalk.i64_in _ (by omega)
    obtain ⟨v, hv⟩ : ∃ v, vs[k]? = some v := ⟨vs[k]'(by rw [HVL.out]; exact hkl2), List.getElem?_eq_getElem _⟩
    obtain ⟨s, hs⟩ : ∃ s, sts[k]? = some s := ⟨sts[k]'(by rw [HSL.out]; exact hkl2), List.getElem?_eq_getElem _⟩
    obtain ⟨b1, o1, ho1, hZ1, hvc⟩ := sla_at HST.out.c.vs hv
    dsimp only at ho1
    subst ho1
    have hvc2 := HR.out.fr.cell (hvc 0 _ rfl) (fun e => by
      obtain ⟨i, e⟩ := e
      exact HST.out.lay.za i b1 hZ1 e)
    rw [Nat.mul_one, Nat.add_zero] at hvc2
    have hnode := HR.out.ns.2 k v s hv (restK_next hs).1
    have HV := Lib.hid hv
    have HS := Lib.hid hs
    obtain ⟨T, u, rfl, hr⟩ := resting hnode
    clear hnode hvc hv hs
    rcases hr with ⟨hsame, hta⟩ | ⟨hta, F, hm, hen, hc⟩
    · have HNX := Lib.hid (HR.out.same HS.out hsame)
      clear hsame
      go_wp2_with fail
      refine ⟨?_, by simp [intOf]; omega⟩
      first
        | exact ⟨k + 1, A2, by omega, rfl, HNX.out⟩
        | (repeat apply Exists.intro
           refine ⟨?_, rfl⟩
           exact ⟨k + 1, A2, by omega, rfl, HNX.out⟩)
    · have HC := Lib.hid hc
      clear hc
      go_wp2_with fail
      refine (HC.out).mono ?_
      rintro ez w2 ⟨rfl, hn2, hf2⟩
      have HNX := Lib.hid (HR.out.next HV.out HS.out hn2.out hf2.out)
      clear hn2 hf2
      dsimp only
      go_wp2_with fail
      refine ⟨?_, by simp [intOf]; omega⟩
      first
        | exact ⟨k + 1, _, by omega, rfl, HNX.out⟩
        | (repeat apply Exists.intro
           refine ⟨?_, rfl⟩
           exact ⟨k + 1, _, by omega, rfl, HNX.out⟩)
end Go.Proofs.Ytdliilmnfbgplaa.GRest

/- The node of a description: the walks. -/
namespace Go.Proofs.Ytdliilmnfbgplaa.GMade
open Go Go.RowKit Go.Proofs.Ytdliilmnfbgplaa.Fl Go.Proofs.Ytdliilmnfbgplaa.Fw Go.Proofs.Ytdliilmnfbgplaa.GRd Go.Proofs.Ytdliilmnfbgplaa.GCells Go.Proofs.Ytdliilmnfbgplaa.GStep Go.Proofs.Ytdliilmnfbgplaa.GMod Go.Proofs.Ytdliilmnfbgplaa.GMem Go.Proofs.Ytdliilmnfbgplaa.GNode Go.Proofs.Ytdliilmnfbgplaa.GNode2 Go.Proofs.Ytdliilmnfbgplaa.GNode3 Go.Proofs.Ytdliilmnfbgplaa.GNode4 Go.Proofs.Ytdliilmnfbgplaa.GPMem Go.Proofs.Ytdliilmnfbgplaa.GPState Go.Proofs.Ytdliilmnfbgplaa.GPiece Go.Proofs.Ytdliilmnfbgplaa.GRunF Go.Proofs.Ytdliilmnfbgplaa.GOuts Go.Proofs.Ytdliilmnfbgplaa.GSub Go.Proofs.Ytdliilmnfbgplaa.GRun Go.Proofs.Ytdliilmnfbgplaa.Hp Go.Proofs.Ytdliilmnfbgplaa.Rd Go.Proofs.Ytdliilmnfbgplaa.Opn
set_option linter.unusedVariables false
set_option linter.unusedSimpArgs false

theorem many_cases (k : Int) : k = 1 ∨ k = 2 ∨ k = 3 ∨ k = 4 ∨ k = 5 ∨ k = 6 ∨ k = 7 ∨ k = 8 ∨ (manyZ k = -2 ∧ k ≠ 1 ∧ k ≠ 2 ∧ k ≠ 3 ∧ k ≠ 4 ∧ k ≠ 5 ∧ k ≠ 6 ∧ k ≠ 7 ∧ k ≠ 8) := by
  by_cases h1 : k = 1
  · exact .inl h1
  by_cases h2 : k = 2
  · exact .inr (.inl h2)
  by_cases h3 : k = 3
  · exact .inr (.inr (.inl h3))
  by_cases h4 : k = 4
  · exact .inr (.inr (.inr (.inl h4)))
  by_cases h5 : k = 5
  · exact .inr (.inr (.inr (.inr (.inl h5))))
  by_cases h6 : k = 6
  · exact .inr (.inr (.inr (.inr (.inr (.inl h6)))))
  by_cases h7 : k = 7
  · exact .inr (.inr (.inr (.inr (.inr (.inr (.inl h7))))))
  by_cases h8 : k = 8
  · exact .inr (.inr (.inr (.inr (.inr (.inr (.inr (.inl h8)))))))
  refine .inr (.inr (.inr (.inr (.inr (.inr (.inr (.inr ⟨?_, h1, h2, h3, h4, h5, h6, h7, h8⟩)))))))
  unfold manyZ
  rw [if_neg (by omega), if_neg (by omega), if_neg h5, if_neg h4]

set_option maxHeartbeats 1000000 in
set_option maxRecDepth 100000 in
theorem many_calls (k : Int) (w : World) : Calls Try.prog 33 #[.int .i64 k] w fun e w' => e = .returned (.int .i64 (manyZ k)) ∧ Hid (w.grownBy w' none) := by
  rcases many_cases k with rfl | rfl | rfl | rfl | rfl | rfl | rfl | rfl | ⟨hm, h1, h2, h3, h4, h5, h6, h7, h8⟩
  case inr.inr.inr.inr.inr.inr.inr.inr =>
    rw [hm]
    have HM := Lib.hid hm
    clear hm
    go_enter Try.func33, Try.ntmps33
    go_wp2_with fail
    go_ret
    exact ⟨rfl, grown_refl _ _⟩
  all_goals
    go_enter Try.func33, Try.ntmps33
    go_wp2_with fail
    go_ret
    exact ⟨rfl, grown_refl _ _⟩

theorem fnew_calls (c : Co) (w : World) : Calls Try.prog 34 #[.agg #[.float .f64 c.b0, .float .f64 c.b1, .float .f64 c.b2, .float .f64 c.a1, .float .f64 c.a2]] w fun e w' => GFNew.NewPost w c e w' := by
  cases h : GFNew.okAll c with
  | false => exact (GFNew.new_no c w h).mono fun e w' ⟨h1, h2⟩ => ⟨h2, .inr ⟨h, h1⟩⟩
  | true =>
    have h9 := h
    unfold GFNew.okAll at h
    simp only [Bool.and_eq_true] at h
    obtain ⟨⟨⟨⟨h0, h1⟩, h2⟩, h3⟩, h4⟩ := h
    exact (GFNew.new_ok c w h0 h1 h2 h3 h4).mono fun e w' ⟨g1, g2, g3⟩ => ⟨g3, .inl ⟨h9, w.heap.size + 2, by omega, g1, g2⟩⟩

def ndV (x : Nd) (f : Value) : Value := .agg #[.int .i64 x.kind, f, .int .i64 x.n, .float .f64 x.x, .float .f64 x.co.b0, .float .f64 x.co.b1, .float .f64 x.co.b2, .float .f64 x.co.a1, .float .f64 x.co.a2,
  .int .i64 x.pt.shape, .int .u32 x.pt.step, .float .f64 x.pt.gain, .int .i64 x.pt.att, .int .i64 x.pt.dec, .int .i64 x.pt.rel, .int .i64 x.pt.sus]
def gdV (ins : Int) (n o : Value) : Value := .agg #[.int .i64 ins, n, o]

def MadeP (w : World) (g : Gd) (x : Nd) (e : Ending) (w' : World) : Prop :=
  ∃ v, e = .returned (.tuple #[v, .int .i64 (madeE g x)]) ∧ Hid (w.grownBy w' none) ∧ (madeE g x = 0 → Hid (NodeR w' (fun b => w.heap.size ≤ b ∧ b < w'.heap.size) v (GMod.start x)))

set_option maxHeartbeats 4000000 in
set_option maxRecDepth 100000 in
theorem made_calls (A : Nat → Prop) (g : Gd) (x : Nd) (na oa fa : Option Addr) (nc oc fc : Nat) (w : World) (hf : SlA 1 iC w A (.slice fa x.from_.length fc) x.from_) (hfl : x.from_.length ≤ 1099511627776) (hnl : g.nodes.length ≤ 256) (hst : x.pt.step < 4294967296) :
    Calls Try.prog 22 #[gdV g.ins (.slice na g.nodes.length nc) (.slice oa g.outs.length oc), ndV x (.slice fa x.from_.length fc)] w fun e w' => MadeP w g x e w' := by
  obtain ⟨ins, nodes, outs⟩ := g
  obtain ⟨kind, fr, n, xx, ⟨b0, b1, b2, a1, a2⟩, ⟨shape, step, gain, att, dec, rel, sus⟩⟩ := x
  obtain ⟨N, hN⟩ : ∃ N, nodes.length = N := ⟨_, rfl⟩
  obtain ⟨M, hM⟩ : ∃ M, outs.length = M := ⟨_, rfl⟩
  obtain ⟨F, hF⟩ : ∃ F, fr.length = F := ⟨_, rfl⟩
  unfold gdV ndV
  dsimp only at *
  rw [hF] at hf hfl ⊢
  rw [hN] at hnl ⊢
  rw [hM]
  have HN := Lib.hid hN
  have HF := Lib.hid hF
  have HSL := Lib.hid hf
  clear hf hN hM hF
  have MC := fun w => Lib.hid (many_calls kind w)
  obtain ⟨w1, hw1⟩ : ∃ w1, (w.alloc (.cells #[.int .i64 ins, .slice na N nc, .slice oa M oc] 25)).alloc (.cells #[.int .i64 kind, .slice fa F fc, .int .i64 n, .float .f64 xx, .float .f64 b0, .float .f64 b1, .float .f64 b2, .float .f64 a1, .float .f64 a2, .int .i64 shape, .int .u32 step, .float .f64 gain, .int .i64 att, .int .i64 dec, .int .i64 rel, .int .i64 sus] 53) = w1 := ⟨_, rfl⟩
  have HG1 : Hid (w.grownBy w1 none) := by unfold Hid; rw [← hw1]; exact grown_alloc (grown_alloc (grown_refl _ _) _) _
  have HGB : Hid (w1.heap[w.heap.size]? = some (.cells #[.int .i64 ins, .slice na N nc, .slice oa M oc] 25 (0, 0))) := by unfold Hid; rw [← hw1]; exact alloc2_old _ _ _
  have HXB : Hid (w1.heap[w.heap.size + 1]? = some (.cells #[.int .i64 kind, .slice fa F fc, .int .i64 n, .float .f64 xx, .float .f64 b0, .float .f64 b1, .float .f64 b2, .float .f64 a1, .float .f64 a2, .int .i64 shape, .int .u32 step, .float .f64 gain, .int .i64 att, .int .i64 dec, .int .i64 rel, .int .i64 sus] 53 (0, 0))) := by unfold Hid; rw [← hw1]; exact alloc2_new _ _ _
  have CX := fun (v : World) (h : w1.grownBy v none) => Lib.hid (row_kept h HXB.out (by simp))
  have CG := fun (v : World) (h : w1.grownBy v none) => Lib.hid (row_kept h HGB.out (by simp))
  have HW1 := Lib.hid hw1
  clear hw1
  go_enter Try.func22, Try.ntmps22
  go_upto_region 2 with (go_at_call 33; refine ((MC _).out).mono ?_; rintro ez w2 ⟨rfl, hg2⟩)
  rw [HW1.out] at hg2
  obtain ⟨gB, hgB⟩ : ∃ gB, w.heap.size = gB := ⟨_, rfl⟩
  have HWS := Lib.hid hgB
  obtain ⟨MZ, hMZ⟩ : ∃ MZ, manyZ kind = MZ := ⟨_, rfl⟩
  have HMZ := Lib.hid hMZ
  have HG2 : Hid (w.grownBy w2 none) := grown_trans HG1.out hg2.out
  have rx := (CX w2 hg2.out).out
  have rg := (CG w2 hg2.out).out
  rw [hgB] at rx rg
  simp only [hgB, hMZ]
  have x0 := cell_of rx 0
  have x1 := cell_of rx 1
  have x2 := cell_of rx 2
  have x3 := cell_of rx 3
  have x4 := cell_of rx 4
  have x5 := cell_of rx 5
  have x6 := cell_of rx 6
  have x7 := cell_of rx 7
  have x8 := cell_of rx 8
  have x9 := cell_of rx 9
  have x10 := cell_of rx 10
  have x11 := cell_of rx 11
  have x12 := cell_of rx 12
  have x13 := cell_of rx 13
  have x14 := cell_of rx 14
  have x15 := cell_of rx 15
  have g0 := cell_of rg 0
  have g1 := cell_of rg 1
  clear HW1 hg2 MC CX CG HGB HXB HG1 rx rg hgB hMZ
  have HLT : Hid (w.heap.size ≤ w2.heap.size) := HG2.out.size
  by_cases hz2 : MZ = -2
  · have HE : Hid (madeE ⟨ins, nodes, outs⟩ ⟨kind, fr, n, xx, ⟨b0, b1, b2, a1, a2⟩, ⟨shape, step, gain, att, dec, rel, sus⟩⟩ = 1) := if_pos (HMZ.out.trans hz2)
    subst hz2
    go_wp2_with fail
    go_ret2
    exact ⟨.nilIface, by rw [HE.out]; rfl, HG2.out, fun e => by rw [HE.out] at e; cases e⟩
  by_cases hz3 : 0 ≤ MZ ∧ MZ ≠ (F : Int)
  · have HE : Hid (madeE ⟨ins, nodes, outs⟩ ⟨kind, fr, n, xx, ⟨b0, b1, b2, a1, a2⟩, ⟨shape, step, gain, att, dec, rel, sus⟩⟩ = 5) := (if_neg (fun e => hz2 (HMZ.out.symm.trans e))).trans (if_pos (by
      show 0 ≤ manyZ kind ∧ manyZ kind ≠ (fr.length : Int)
      rw [HMZ.out, HF.out]
      exact hz3))
    obtain ⟨hz3a, hz3b⟩ := hz3
    go_wp2_with fail
    go_ret2
    exact ⟨.nilIface, by rw [HE.out]; rfl, HG2.out, fun e => by rw [HE.out] at e; cases e⟩
  have HZ3 := Lib.hid hz3
  have HE0 : Hid (madeE ⟨ins, nodes, outs⟩ ⟨kind, fr, n, xx, ⟨b0, b1, b2, a1, a2⟩, ⟨shape, step, gain, att, dec, rel, sus⟩⟩ = if fr.any (badRef N) = true then 8
      else if kind = 1 then (if n < 0 ∨ ins ≤ n then 3 else 0)
      else if kind = 6 then (if n < 1 ∨ 4096 < n then 3 else 0)
      else if kind = 7 then (if GFNew.okAll ⟨b0, b1, b2, a1, a2⟩ = true then 0 else 3)
      else if kind = 8 then GVMod.wrongP ⟨shape, step, gain, att, dec, rel, sus⟩
      else 0) := (if_neg (fun e => hz2 (HMZ.out.symm.trans e))).trans ((if_neg (by
        show ¬ (0 ≤ manyZ kind ∧ manyZ kind ≠ (fr.length : Int))
        rw [HMZ.out, HF.out]
        exact hz3)).trans (by rw [← HN.out]))
  have hz4 : ¬ (0 ≤ MZ) ∨ MZ = (F : Int) := by
    by_cases e : 0 ≤ MZ
    · exact .inr (Classical.byContradiction fun e2 => hz3 ⟨e, e2⟩)
    · exact .inl e
  clear hz3
  go_upto_region 4 with fail
  go_cut [19] from 16 (fun c wx => c = .bool false ∧ w2 = wx)
  case first =>
    rcases hz4 with e | e
    · go_wp2_with fail
      go_meet
      exact ⟨rfl, rfl⟩
    · have e0 : 0 ≤ MZ := by omega
      have HE := Lib.hid e
      clear e
      go_wp2_with fail
      go_meet
      refine ⟨?_, rfl⟩
      simp
      exact HE.out
  obtain ⟨rfl, hwc⟩ := hcut
  subst hwc
  clear hz4
  go_wp2_with fail
  go_loopw [8, 32] (fun v8 v32 wr => ∃ k : Nat, k ≤ F ∧ v32 = .int .i64 (k : Int) ∧ w2 = wr ∧ Hid (fr.any (badRef N) = (fr.drop k).any (badRef N))) (fun _ v32 _ => F - (intOf v32).toNat)
  case atStart => exact ⟨0, Nat.zero_le _, rfl, rfl, rfl⟩
  case round =>
    obtain ⟨k, hk, rfl, hwr, HAN⟩ := hrel
    subst hwr
    by_cases hkF : k = F
    · subst hkF
      have HOK : Hid (fr.any (badRef N) = false) := by
        unfold Hid
        rw [HAN.out, List.drop_of_length_le (Nat.le_of_eq HF.out)]
        rfl
      rw [HOK.out] at HE0
      rcases many_cases kind with rfl | rfl | rfl | rfl | rfl | rfl | rfl | rfl | ⟨hm, _⟩
      · by_cases h1 : n < 0
        · have HE : Hid (madeE ⟨ins, nodes, outs⟩ ⟨1, fr, n, xx, ⟨b0, b1, b2, a1, a2⟩, ⟨shape, step, gain, att, dec, rel, sus⟩⟩ = 3) := HE0.out.trans (by simp [h1])
          go_wp2_with fail
          go_ret2
          exact ⟨.nilIface, by rw [HE.out]; rfl, HG2.out, fun e => by rw [HE.out] at e; cases e⟩
        by_cases h2 : ins ≤ n
        · have HE : Hid (madeE ⟨ins, nodes, outs⟩ ⟨1, fr, n, xx, ⟨b0, b1, b2, a1, a2⟩, ⟨shape, step, gain, att, dec, rel, sus⟩⟩ = 3) := HE0.out.trans (by simp [h2])
          go_wp2_with fail
          go_ret2
          exact ⟨.nilIface, by rw [HE.out]; rfl, HG2.out, fun e => by rw [HE.out] at e; cases e⟩
        have HE : Hid (madeE ⟨ins, nodes, outs⟩ ⟨1, fr, n, xx, ⟨b0, b1, b2, a1, a2⟩, ⟨shape, step, gain, att, dec, rel, sus⟩⟩ = 0) := HE0.out.trans (by simp [h1, h2])
        have h2b : n < ins := by omega
        obtain ⟨nn, rfl⟩ : ∃ nn : Nat, n = (nn : Int) := Int.eq_ofNat_of_zero_le (by omega)
        go_wp2_with fail
        go_ret2
        exact ⟨.iface 92 (.int .i64 (nn : Int)), by rw [HE.out]; rfl, HG2.out, fun _ => rfl⟩
      · have HE : Hid (madeE ⟨ins, nodes, outs⟩ ⟨2, fr, n, xx, ⟨b0, b1, b2, a1, a2⟩, ⟨shape, step, gain, att, dec, rel, sus⟩⟩ = 0) := HE0.out.trans (by simp)
        go_wp2_with fail
        go_ret2
        exact ⟨.iface 93 (.float .f64 xx), by rw [HE.out]; rfl, HG2.out, fun _ => ⟨xx, rfl, rfl⟩⟩
      · have HE : Hid (madeE ⟨ins, nodes, outs⟩ ⟨3, fr, n, xx, ⟨b0, b1, b2, a1, a2⟩, ⟨shape, step, gain, att, dec, rel, sus⟩⟩ = 0) := HE0.out.trans (by simp)
        go_wp2_with fail
        go_ret2
        exact ⟨.iface 94 (.float .f64 xx), by rw [HE.out]; rfl, HG2.out, fun _ => ⟨xx, rfl, rfl⟩⟩
      · have HE : Hid (madeE ⟨ins, nodes, outs⟩ ⟨4, fr, n, xx, ⟨b0, b1, b2, a1, a2⟩, ⟨shape, step, gain, att, dec, rel, sus⟩⟩ = 0) := HE0.out.trans (by simp)
        go_wp2_with fail
        go_ret2
        exact ⟨.iface 96 (.agg #[]), by rw [HE.out]; rfl, HG2.out, fun _ => rfl⟩
      · have HE : Hid (madeE ⟨ins, nodes, outs⟩ ⟨5, fr, n, xx, ⟨b0, b1, b2, a1, a2⟩, ⟨shape, step, gain, att, dec, rel, sus⟩⟩ = 0) := HE0.out.trans (by simp)
        go_wp2_with fail
        go_ret2
        exact ⟨.iface 97 (.agg #[]), by rw [HE.out]; rfl, HG2.out, fun _ => rfl⟩
      · by_cases h1 : n < 1
        · have HE : Hid (madeE ⟨ins, nodes, outs⟩ ⟨6, fr, n, xx, ⟨b0, b1, b2, a1, a2⟩, ⟨shape, step, gain, att, dec, rel, sus⟩⟩ = 3) := HE0.out.trans (by simp [h1])
          go_wp2_with fail
          go_ret2
          exact ⟨.nilIface, by rw [HE.out]; rfl, HG2.out, fun e => by rw [HE.out] at e; cases e⟩
        by_cases h2 : 4096 < n
        · have HE : Hid (madeE ⟨ins, nodes, outs⟩ ⟨6, fr, n, xx, ⟨b0, b1, b2, a1, a2⟩, ⟨shape, step, gain, att, dec, rel, sus⟩⟩ = 3) := HE0.out.trans (by simp [h2])
          go_wp2_with fail
          go_ret2
          exact ⟨.nilIface, by rw [HE.out]; rfl, HG2.out, fun e => by rw [HE.out] at e; cases e⟩
        have HE : Hid (madeE ⟨ins, nodes, outs⟩ ⟨6, fr, n, xx, ⟨b0, b1, b2, a1, a2⟩, ⟨shape, step, gain, att, dec, rel, sus⟩⟩ = 0) := HE0.out.trans (by simp [h1, h2])
        obtain ⟨nn, rfl⟩ : ∃ nn : Nat, n = (nn : Int) := Int.eq_ofNat_of_zero_le (by omega)
        obtain ⟨i0, hi, hy0, hy1, hy2⟩ := info_parts info46
        go_wp2_with (at_make; refine wpList_make_full _ rfl _ _ 38 rfl w2.heap.size 46 i0 (.float .f64 0) 1 Try.underlying38 hi hy0 hy1 _ _ _ _ nn rfl rfl rfl rfl (by rw [hy2]; omega) (by unfold maxLen; omega) (Nat.le_refl _) ?_; intro w3 hown hg3; have HOWN := Lib.hid hown; have HG3 := Lib.hid hg3; clear hown hg3)
        go_ret2
        have hrow : RowF w3 w2.heap.size (List.replicate nn 0) := by
          have hown := HOWN.out
          rw [show (madeCells (Value.float FloatKind.f64 0).cells (nn * 1)).toList = List.replicate nn (Value.float .f64 0) from by rw [Nat.mul_one]; exact madeCells_one _ _] at hown
          unfold RowF
          rw [List.map_replicate]
          exact new_of_made hown
        have hga : w3.grownBy (w3.alloc (.cells #[.slice (some ⟨w2.heap.size, 0, none⟩) nn nn, .int .i64 0] 100)) none := grown_alloc (grown_refl _ _) _
        have hl := lt_of hrow
        have hlt := HLT.out
        unfold Hid at hlt
        refine ⟨.iface 98 (.pointer (some ⟨w3.heap.size, 0, none⟩)), by rw [HE.out]; rfl, grown_trans HG2.out (grown_trans HG3.out hga), fun _ => ?_⟩
        show NodeR _ _ _ (.del (List.replicate nn 0) 0)
        have hsz : (w3.alloc (.cells #[.slice (some ⟨w2.heap.size, 0, none⟩) nn nn, .int .i64 0] 100)).heap.size = w3.heap.size + 1 := by simp
        refine ⟨w3.heap.size, w2.heap.size, List.replicate nn 0, ⟨by omega, by omega⟩, ⟨by omega, by omega⟩, by omega, rfl, ?_, row_kept hga hrow (by simp), by rw [List.map_replicate, GFNew.cn_zero], by rw [List.length_replicate]; omega, by rw [List.length_replicate]; omega⟩
        rw [List.length_replicate]
        exact heap_alloc_new _ _
      · have HE : Hid (madeE ⟨ins, nodes, outs⟩ ⟨7, fr, n, xx, ⟨b0, b1, b2, a1, a2⟩, ⟨shape, step, gain, att, dec, rel, sus⟩⟩ = if GFNew.okAll ⟨b0, b1, b2, a1, a2⟩ = true then 0 else 3) := HE0.out.trans (by simp)
        have FC := fun w => Lib.hid (fnew_calls ⟨b0, b1, b2, a1, a2⟩ w)
        go_wp2_with (go_at_call 34; refine ((FC _).out).mono ?_; rintro ez w3 ⟨hg3, ⟨hok, bp, hbp, rfl, hfa⟩ | ⟨hok, rfl⟩⟩)
        · go_ret2
          have HE2 := HE.out.trans (if_pos hok)
          have hlt := HLT.out
          unfold Hid at hlt
          have hfl2 : bp < w3.heap.size := by
            obtain ⟨q1, q2, q3, q4, hfb, _⟩ := hfa
            exact lt_of hfb
          refine ⟨.iface 105 (.agg #[.pointer (some ⟨bp, 0, none⟩)]), by rw [HE2]; rfl, grown_trans HG2.out hg3, fun _ => ?_⟩
          show NodeR _ _ _ (.fil ⟨b0, b1, b2, a1, a2⟩ GFNew.rest0)
          exact ⟨bp, ⟨by omega, hfl2⟩, rfl, hfa⟩
        · go_ret2
          have HE2 := HE.out.trans (if_neg (by rw [hok]; exact Bool.false_ne_true))
          exact ⟨.iface 105 (.agg #[.pointer none]), by rw [HE2]; rfl, grown_trans HG2.out hg3, fun e => absurd (HE2.symm.trans e) (by decide)⟩
      · have HE : Hid (madeE ⟨ins, nodes, outs⟩ ⟨8, fr, n, xx, ⟨b0, b1, b2, a1, a2⟩, ⟨shape, step, gain, att, dec, rel, sus⟩⟩ = GVMod.wrongP ⟨shape, step, gain, att, dec, rel, sus⟩) := HE0.out.trans (by simp)
        have VC := fun w => Lib.hid (GVWalk.new_calls ⟨shape, step, gain, att, dec, rel, sus⟩ w)
        go_wp2_with (go_at_call 35; refine ((VC _).out).mono ?_; rintro ez w3 ⟨hg3, hv⟩; have y9 := grown_cell hg3.out x9 (by simp); have y10 := grown_cell hg3.out x10 (by simp); have y11 := grown_cell hg3.out x11 (by simp); have y12 := grown_cell hg3.out x12 (by simp); have y13 := grown_cell hg3.out x13 (by simp); have y14 := grown_cell hg3.out x14 (by simp); have y15 := grown_cell hg3.out x15 (by simp); rcases hv with ⟨hok, rfl⟩ | ⟨hok, gv, hgv, hva, rfl⟩)
        · go_ret2
          have hga : ∀ o, w3.grownBy (w3.alloc o) none := fun o => grown_alloc (grown_refl _ _) _
          exact ⟨.iface 109 (.pointer (some ⟨w3.heap.size, 0, none⟩)), by rw [HE.out]; rfl, grown_trans HG2.out (grown_trans hg3.out (hga _)), fun e => absurd (HE.out.symm.trans e) hok⟩
        · go_ret2
          have hga : ∀ o, w3.grownBy (w3.alloc o) none := fun o => grown_alloc (grown_refl _ _) _
          have HE2 := HE.out.trans hok
          have hlt := HLT.out
          unfold Hid at hlt
          have hg3s := hg3.out.size
          have hgl := lt_of hva
          refine ⟨.iface 109 (.pointer (some ⟨w3.heap.size, 0, none⟩)), by rw [HE2]; rfl, grown_trans HG2.out (grown_trans hg3.out (hga _)), fun _ => ?_⟩
          show NodeR _ _ _ (.sin ⟨shape, step, gain, att, dec, rel, sus⟩ GVWalk.st0)
          have hsz : ∀ o, (w3.alloc o).heap.size = w3.heap.size + 1 := fun o => by simp
          refine ⟨w3.heap.size, gv, ⟨by omega, by rw [hsz]; omega⟩, ⟨by omega, by rw [hsz]; omega⟩, by omega, rfl, heap_alloc_new _ _, row_kept (hga _) hva (by simp), hok, GVWalk.st0_ok, hst⟩
      · exact absurd (HMZ.out.symm.trans hm) hz2
    have hkl : (k : Int) < (F : Int) := by omega
    have hkl2 : k < F := by omega
    have hwk : IntKind.i64.wrap ((k : Int) + 1) = (k : Int) + 1 := IntWalk.i64_in _ (by omega)
    obtain ⟨kz, hkz⟩ : ∃ kz, fr[k]? = some kz := ⟨fr[k]'(by rw [HF.out]; exact hkl2), List.getElem?_eq_getElem _⟩
    obtain ⟨b6, o6, rfl, hA6, hcell⟩ := sla_at HSL.out hkz
    have u1 := grown_cell HG2.out (hcell 0 _ rfl) (by simp)
    rw [Nat.mul_one, Nat.add_zero] at u1
    have HD : Hid (fr.any (badRef N) = (badRef N kz || (fr.drop (k + 1)).any (badRef N))) := by
      unfold Hid
      rw [HAN.out]
      obtain ⟨hh, he⟩ := List.getElem?_eq_some_iff.1 hkz
      rw [List.drop_eq_getElem_cons hh, he]
      rfl
    clear hcell hkz
    by_cases hb1 : kz < 0
    · have HE : Hid (madeE ⟨ins, nodes, outs⟩ ⟨kind, fr, n, xx, ⟨b0, b1, b2, a1, a2⟩, ⟨shape, step, gain, att, dec, rel, sus⟩⟩ = 8) := HE0.out.trans (if_pos (by rw [HD.out]; simp [badRef, hb1]))
      go_wp2_with fail
      go_ret2
      exact ⟨.nilIface, by rw [HE.out]; rfl, HG2.out, fun e => by rw [HE.out] at e; cases e⟩
    by_cases hb2 : (N : Int) ≤ kz
    · have HE : Hid (madeE ⟨ins, nodes, outs⟩ ⟨kind, fr, n, xx, ⟨b0, b1, b2, a1, a2⟩, ⟨shape, step, gain, att, dec, rel, sus⟩⟩ = 8) := HE0.out.trans (if_pos (by rw [HD.out]; simp [badRef, hb2]))
      go_wp2_with fail
      go_ret2
      exact ⟨.nilIface, by rw [HE.out]; rfl, HG2.out, fun e => by rw [HE.out] at e; cases e⟩
    have HD2 : Hid (fr.any (badRef N) = (fr.drop (k + 1)).any (badRef N)) := by
      unfold Hid
      rw [HD.out]
      simp [badRef, hb1, hb2]
    go_wp2_with fail
    refine ⟨?_, by simp [intOf]; omega⟩
    first
      | exact ⟨k + 1, by omega, rfl, trivial, HD2.out⟩
      | (repeat apply Exists.intro
         refine ⟨?_, rfl⟩
         exact ⟨k + 1, by omega, rfl, trivial, HD2.out⟩)
end Go.Proofs.Ytdliilmnfbgplaa.GMade

/- A copy of a slice of ints; append in a plain region. -/
namespace Go.Proofs.Ytdliilmnfbgplaa.GClone
open Go Go.RowKit Go.Proofs.Ytdliilmnfbgplaa.Fl Go.Proofs.Ytdliilmnfbgplaa.Fw Go.Proofs.Ytdliilmnfbgplaa.GRd Go.Proofs.Ytdliilmnfbgplaa.GCells Go.Proofs.Ytdliilmnfbgplaa.GStep Go.Proofs.Ytdliilmnfbgplaa.GMod Go.Proofs.Ytdliilmnfbgplaa.GMem Go.Proofs.Ytdliilmnfbgplaa.GPMem Go.Proofs.Ytdliilmnfbgplaa.Hp Go.Proofs.Ytdliilmnfbgplaa.Rd Go.Proofs.Ytdliilmnfbgplaa.Opn
set_option linter.unusedVariables false
set_option linter.unusedSimpArgs false

theorem wpList_append_in {P : Program} {ops : Array Oper} {rest : List Oper} {o : Oper} {a : Act} {Q : Exit → Act → World → Prop} (w : World) (hgd : o.guard = none) (s x : Operand) (t : TypeId)
    (ho : o.op = .call { callee := .builtin .append, args := #[s, x], argTypes := #[t, t] })
    (base : Nat) (e : TypeId) (i : TypeInfo) (z : Value) (size bytes : Nat) (ht : P.underlying t = some (.slice e)) (hi : P.info? e = some i) (hz : i.zero = some z)
    (hsize : i.size = size) (hby : i.bytes = bytes) (hzs : z.cells.size = size) (hsz : 0 < size)
    (v : Value) (n : Nat) (xs : List Value) (hs : a.eval s = v) (hown : w.ownsRow base e size v n xs)
    (ao : Option Addr) (m c : Nat) (news : List Value) (hx : a.eval x = .slice ao m c) (hl : news.length = m * size) (hnews : ∀ j u, news[j]? = some u → ∃ b off, ao = some ⟨b, off, none⟩ ∧ w.cell? ⟨b, off + j, none⟩ = some u) (h1 : ∀ u ∈ news, u.oneCell' = true)
    (h63 : n + m ≤ maxLen) (hbytes : (n + m) * bytes ≤ 140737488355328) (hbase : base ≤ w.heap.size)
    (h : ∀ oa oc w', w'.ownsRow base e size (.slice oa (n + m) oc) (n + m) (xs ++ news) → w.grownBy w' v.ownBlock → ((Value.slice oa (n + m) oc).ownBlock = v.ownBlock ∨ (Value.slice oa (n + m) oc).ownBlock = some w.heap.size) → wpList P ops Q rest (a.put o.dst (.slice oa (n + m) oc)) w') :
    wpList P ops Q (o :: rest) a w := by
  obtain ⟨v', w', hr, h2, h3, h4⟩ := run_append_in (P := P) (w := w) base t o.type e i z size bytes ht hi hz hsize hby hzs hsz v n xs hown ao m c news hl hnews h1 h63 hbytes hbase
  obtain ⟨oa, oc, rfl⟩ := own_slice h2
  refine wpList_plain hgd fun K hK => ?_
  unfold Oper.wp
  simp [execOp, ho, resolve, invoke, builtin, hs, hx, hr, Result.andThen]
  exact hK _ _ (h oa oc w' h2 h3 h4)

theorem flC_i (xs : List Int) : flC iC xs = xs.map (Value.int .i64) := by
  induction xs with
  | nil => rfl
  | cons y l ih =>
    have : flC iC (y :: l) = iC y ++ flC iC l := rfl
    rw [this, ih]
    rfl
theorem one_i (xs : List Int) : ∀ u ∈ flC iC xs, u.oneCell' = true := fun u hu => by
  rw [flC_i, List.mem_map] at hu
  obtain ⟨_, _, rfl⟩ := hu
  rfl
theorem info3 : (Try.prog.info? 3).map (fun i => (i.zero, i.size, i.bytes)) = some (some (.int .i64 0), 1, 8) := by kernel_rfl

set_option maxHeartbeats 1000000 in
set_option maxRecDepth 100000 in
theorem clone_calls (A : Nat → Prop) (ao : Option Addr) (c : Nat) (xs : List Int) (w : World) (hv : SlA 1 iC w A (.slice ao xs.length c) xs) (hm : xs.length ≤ 1099511627776) :
    Calls Try.prog 21 #[.slice ao xs.length c] w fun e w' => ∃ oa oc, e = .returned (.slice oa xs.length oc) ∧ Hid (w'.ownsRow w.heap.size 3 1 (.slice oa xs.length oc) xs.length (flC iC xs)) ∧ Hid (w.grownBy w' none) := by
  obtain ⟨n, hn⟩ : ∃ n, xs.length = n := ⟨_, rfl⟩
  have HN := Lib.hid hn
  rw [hn] at hv hm ⊢
  have HV := Lib.hid hv
  clear hv hn
  obtain ⟨i0, hi, hz0, hz1, hz2⟩ := info_parts info3
  have hnil := fun (w : World) => Lib.run_eql_slice_nil (P := Try.prog) w 23 3 ao n c 0 0 Try.underlying23
  cases ao with
  | none =>
    have HE : Hid (xs = []) := by
      rcases HV.out with ⟨b, off, cap', _, hh, _⟩ | ⟨_, _, _, hnil⟩
      · simp at hh
      · exact hnil
    have HE0 : n = 0 := by rw [← HN.out, HE.out]; rfl
    subst HE0
    simp only [Option.isNone_none] at hnil
    go_enter Try.func21, Try.ntmps21
    go_wp2_with fail
    go_ret
    refine ⟨none, 0, rfl, ?_, grown_refl _ _⟩
    rw [HE.out]
    exact World.ownsRow_nil _ _ _ _
  | some ad =>
    simp only [Option.isNone_some] at hnil
    have HEMP : Hid ((w.alloc (.cells #[] 3)).ownsRow w.heap.size 3 1 (.slice (some ⟨w.heap.size, 0, none⟩) 0 0) 0 ([] : List Value)) := ⟨rfl, .inr ⟨w.heap.size, 0, #[], rfl, Nat.le_refl _, heap_alloc_new _ _, Nat.le_refl _, Nat.zero_le _, rfl, rfl⟩⟩
    have HGA : Hid (w.grownBy (w.alloc (.cells #[] 3)) none) := grown_alloc (grown_refl _ _) _
    go_enter Try.func21, Try.ntmps21
    go_wp2_with (at_builtin; refine wpList_append_in _ rfl _ _ 23 rfl w.heap.size 3 i0 (.int .i64 0) 1 8 Try.underlying23 hi hz0 hz1 hz2 rfl (by decide) (.slice (some ⟨w.heap.size, 0, none⟩) 0 0) 0 [] rfl HEMP.out (some ad) n c (flC iC xs) rfl (by rw [flC_len iC_len, HN.out]) (news_sl iC_len (by decide) (SlA.grown HV.out HGA.out)) (one_i xs) (by unfold maxLen; omega) (by omega) (by simp) ?_; intro oa oc w2 h2 hg2 hb2; have H2 := Lib.hid h2; have HG2 := Lib.hid hg2; clear h2 hg2 hb2)
    go_ret
    have h2 := H2.out
    rw [Nat.zero_add, List.nil_append] at h2
    exact ⟨oa, oc, rfl, h2, grown_own HGA.out HEMP.out (Nat.le_refl _) HG2.out⟩
end Go.Proofs.Ytdliilmnfbgplaa.GClone
