/- Texts of the graph seat, in one file: GPiece, GRunF, GOuts, GSub. -/
import Derived.Test.YtdliilmnfbgplaaGM3
/- A piece is played: the walk. -/
namespace Go.Proofs.Ytdliilmnfbgplaa.GPiece
open Go Go.RowKit Go.Proofs.Ytdliilmnfbgplaa.Fl Go.Proofs.Ytdliilmnfbgplaa.Fw Go.Proofs.Ytdliilmnfbgplaa.GRd Go.Proofs.Ytdliilmnfbgplaa.GCells Go.Proofs.Ytdliilmnfbgplaa.GStep Go.Proofs.Ytdliilmnfbgplaa.GMod Go.Proofs.Ytdliilmnfbgplaa.GMem Go.Proofs.Ytdliilmnfbgplaa.GNode Go.Proofs.Ytdliilmnfbgplaa.GNode2 Go.Proofs.Ytdliilmnfbgplaa.GNode3 Go.Proofs.Ytdliilmnfbgplaa.GNode4 Go.Proofs.Ytdliilmnfbgplaa.GPMem Go.Proofs.Ytdliilmnfbgplaa.GPState Go.Proofs.Ytdliilmnfbgplaa.Hp Go.Proofs.Ytdliilmnfbgplaa.Rd Go.Proofs.Ytdliilmnfbgplaa.Opn
set_option linter.unusedVariables false
set_option linter.unusedSimpArgs false

/-- What comes in from without. -/
def e0N (ls : List (List Nat)) : NS → List (List Nat)
  | .ent k => [ls.getD k []]
  | _ => []
theorem heard_eq (ls past : List (List Nat)) (x : Nd) (s : NS) : heardN ls past x s = e0N ls s ++ x.from_.map fun k => past.getD k.toNat [] := by cases s <;> rfl
theorem entry2 {w : World} {A : Nat → Prop} {v : Value} {s : NS} (h : NodeR w A v s) : ∃ T u, v = .iface T u ∧ ∃ (en : Nat) (eb : Bool), (∀ w : World, (Instr.typeAssert (.iface T u) 71 92 true).run Try.prog w = .ok (.tuple #[.int .i64 (en : Int), .bool eb]) w) ∧ (eb = true → s = .ent en) ∧ (eb = false → ∀ n, s ≠ .ent n) := by
  obtain ⟨T, u, e, h | h⟩ := entry h
  · obtain ⟨n, h1, h2⟩ := h
    exact ⟨T, u, e, n, true, h2, fun _ => h1, fun e => by cases e⟩
  · exact ⟨T, u, e, 0, false, h.2, (fun e => by cases e), fun _ => h.1⟩

theorem info38 : (Try.prog.info? 38).map (fun i => (i.zero, i.size, i.bytes)) = some (some (.slice none 0 0), 1, 24) := by kernel_rfl
theorem getd_in {past : List (List Nat)} {k : Int} {q : Nat} {l : List Nat} (hk : k = (q : Int)) (h : past[q]? = some l) : past.getD k.toNat [] = l := by
  subst hk
  rw [List.getD_eq_getElem?_getD, Int.toNat_natCast, h]
  rfl
theorem one_get {u : Value} : ∀ j, j < 1 * 1 → (#[u] : Array Value)[j]? = (flC vC [u])[j]? := by
  intro j hj
  obtain rfl : j = 0 := by omega
  rfl
theorem take_next {α : Type} {l : List α} {q : Nat} {x : α} (h : l[q]? = some x) : l.take (q + 1) = l.take q ++ [x] := by
  rw [List.take_add_one, h]
  rfl

theorem ahead_tell (a : Addr) (w : World) : (nilAhead (150 + Made.depth) 98 (.pointer (some a)) "cantus/graph.tell").run Try.prog w = .ok (some false) w := by kernel_rfl
theorem ahead_hear (a : Addr) (w : World) : (nilAhead (150 + Made.depth) 98 (.pointer (some a)) "cantus/graph.hear").run Try.prog w = .ok (some false) w := by kernel_rfl
theorem wpM_ncf {ops : Array Oper} {C : World → Prop} {B : Nat → Bool} {Q : Act → World → Prop} {k : Nat} {o : Oper} {rest : List Oper} {a : Act} {w : World} (hw : Region.wanted o (yielded ops a.tmps) = true) (hB : B k = false) (x : Operand) (name : String) (d : Addr)
    (hn : ∀ w, (nilAhead (150 + Made.depth) 98 (.pointer (some d)) name).run Try.prog w = .ok (some false) w) (ho : o.op = .nilCheck x) (hx : a.eval x = .func (.method name) #[.iface 98 (.pointer (some d))] #[])
    (h : Mixed.wpM Try.prog ops C B Q (k + 1) rest (a.put o.dst (.func (.method name) #[.iface 98 (.pointer (some d))] #[])) w) : Mixed.wpM Try.prog ops C B Q k (o :: rest) a w :=
  Mixed.wpM_val hw hB _ (fun w' _ => by
    unfold execOp
    simp only [ho]
    rw [hx]
    have hp : Sem.run Try.prog (Sem.program Sem.pure) w' = .ok Try.prog w' := rfl
    simp [program, hp, hn, Result.andThen]) h

set_option maxHeartbeats 4000000 in
set_option maxRecDepth 100000 in
theorem piece_calls (Z : Nat → Prop) (A : Nat → Nat → Prop) (I : Nat → Prop) (h : Hn) (g : Gd) (order : List Nat) (chunk : Nat) (vs : List Value) (sts : List NS) (ia : Option Addr) (ic : Nat) (ls : List (List Nat)) (n : Nat) (w0 : World)
    (hg : GrC w0 Z h g order chunk vs) (hs : NsR w0 A vs sts) (hpast : ∃ rows : List Value, w0.heap[h.pb]? = some (.cells rows.toArray 38 (0, 0)) ∧ rows.length = g.nodes.length) (hlay : Lay w0 Z A h.pb) (hok : GOk g order sts)
    (hin : CLl w0 I (.slice ia ls.length ic) ls) (hI : ∀ b, I b → b < w0.heap.size ∧ b ≠ h.pb ∧ ∀ i, ¬ A i b) (hls : ∀ l ∈ ls, l.length = n) (hil : (ls.length : Int) = g.ins) (hn0 : 0 < n) (hn : n ≤ 65536) :
    Calls Try.prog 26 #[.pointer (some ⟨h.gb, 0, none⟩), .slice ia ls.length ic, .int .i64 (n : Int)] w0 fun e w' => e = .returned (.tuple #[]) ∧ Hid (NsR w' A vs (pieceN g order sts ls n).2) ∧ Hid (∃ rb, PastR w' w0.heap.size h.pb n g.nodes.length g.nodes.length rb (pieceN g order sts ls n).1) ∧ Hid (Fr (fun b => (∃ i, A i b) ∨ b = h.pb) w0 w') := by
  obtain ⟨gb, pb, na, nc, oa, oc, va, vc, ra, rc⟩ := h
  dsimp only at *
  obtain ⟨N, hN⟩ : ∃ N, g.nodes.length = N := ⟨_, rfl⟩
  obtain ⟨B, hB⟩ : ∃ B, w0.heap.size = B := ⟨_, rfl⟩
  obtain ⟨i0, hi, hz0, hz1, hz2⟩ := info_parts info46
  have HG := Lib.hid hg
  have HS := Lib.hid hs
  have HL := Lib.hid hlay
  have HOK := Lib.hid hok
  have HIN := Lib.hid hin
  have HI := Lib.hid hI
  have HLS := Lib.hid hls
  have HIL := Lib.hid hil
  have hcell := hg.cell
  dsimp only at hcell
  rw [hN] at hcell hpast ⊢
  have HN := Lib.hid hN
  have HB := Lib.hid hB
  have c0 := cell_of hcell 1
  have c1 := cell_of hcell 2
  have c2 := cell_of hcell 3
  have c3r := cell_of hcell 4
  have c5 := cell_of hcell 5
  have c6 := cell_of hcell 6
  have hgp : gb ≠ pb := fun e => hlay.zp (e ▸ hg.z)
  have hN2 : N ≤ 256 := hN ▸ hok.small
  obtain ⟨p0, hp0⟩ : ∃ p0, sts.map (past0 n) = p0 := ⟨_, rfl⟩
  have HP0 := Lib.hid hp0
  have HPA : Hid (∃ rows : List Value, w0.heap[pb]? = some (.cells rows.toArray 38 (0, 0)) ∧ rows.length = N) := hpast
  clear hg hs hlay hok hin hI hls hil hcell hN hB hpast hp0
  go_enter Try.func26, Try.ntmps26
  go_wp2_with fail
  go_loopw [6, 7, 8, 9, 26] (fun v6 v7 v8 v9 v26 wr => ∃ (k : Nat) (rb : Nat → Nat), k ≤ N ∧ v26 = .int .i64 (k : Int) ∧ Hid (PastR wr B pb n N k rb p0) ∧ Hid (Fr (fun b => b = pb) w0 wr)) (fun _ _ _ _ v26 _ => N - (intOf v26).toNat)
  case atStart =>
    obtain ⟨rows, hr, hrl⟩ := HPA.out
    exact ⟨0, fun _ => 0, Nat.zero_le _, rfl, ⟨⟨rows, hr, hrl, fun i hi => absurd hi (Nat.not_lt_zero i)⟩, fun i hi => absurd hi (Nat.not_lt_zero i), fun i _ hi => absurd hi (Nat.not_lt_zero i), fun i hi => absurd hi (Nat.not_lt_zero i)⟩, Fr.refl _ _⟩
  case round =>
    obtain ⟨k, rb, hk, rfl, HP, HF⟩ := hrel
    obtain ⟨wz, hwz⟩ : ∃ wz : World, wz = wr := ⟨_, rfl⟩
    subst hwz
    by_cases hkn : k = N
    · have h2 := hkn.symm
      subst h2
      clear hkn
      have HPS0 : Hid (PS w0 wz A pb n vs g order ls p0 sts rb 0 p0 sts) := by
        refine ⟨rfl, by rw [HN.out, HB.out]; exact HP.out, ?_, HS.out.fr HF.out (fun i b hb e => HL.out.ap i (by rw [← show b = pb from e]; exact hb)), HOK.out, fun i hi => ?_, HF.out.mono (fun b hb => .inr hb)⟩
        · rw [← HP0.out, List.length_map]; exact HOK.out.len
        · obtain ⟨hiN, hiD⟩ := HOK.out.ord i hi
          have hx : g.nodes[i]? = some g.nodes[i] := List.getElem?_eq_getElem _
          have his : i < sts.length := by rw [HOK.out.len]; exact hiN
          have hs : sts[i]? = some sts[i] := List.getElem?_eq_getElem _
          have hft := HOK.out.fits i _ _ hx hs
          rw [← HP0.out, List.getElem?_map, hs]
          unfold isD at hiD
          rw [hx] at hiD
          simp only [decide_eq_false_iff_not] at hiD
          show some (past0 n sts[i]) = _
          cases hd : sts[i] <;> first | rfl | (rw [hd] at hft; exact absurd (hft.1 rfl).1 hiD)
      have d4 := HF.out.cell c3r hgp
      clear HPA HP HF
      obtain ⟨R, hR⟩ : ∃ R, order.length = R := ⟨_, rfl⟩
      have HR := Lib.hid hR
      rw [hR] at d4
      clear hR
      go_wp2_with fail
      go_loopw [11, 12, 13, 14, 16, 63] (fun v11 v12 v13 v14 v16 v63 wr => ∃ (j : Nat) (past : List (List Nat)) (st2 : List NS), j ≤ R ∧ v63 = .int .i64 (j : Int) ∧ Hid (PS w0 wr A pb n vs g order ls p0 sts rb j past st2)) (fun _ _ _ _ _ v63 _ => R - (intOf v63).toNat)
      case atStart => exact ⟨0, p0, sts, Nat.zero_le _, rfl, HPS0.out⟩
      case round =>
        obtain ⟨j, past, st2, hj, rfl, HPS⟩ := hrel
        obtain ⟨wy, hwy⟩ : ∃ wy : World, wy = wr := ⟨_, rfl⟩
        subst hwy
        clear HPS0
        by_cases hjR : j = R
        · have h2 := hjR.symm
          subst h2
          clear hjR
          have HPE : Hid (playN g ls n order (p0, sts) = (past, st2)) := by
            unfold Hid
            rw [HPS.out.eq, List.drop_of_length_le (by rw [HR.out]; exact Nat.le_refl _)]
            rfl
          have hZX : ∀ b, Z b → ¬ ((∃ i, A i b) ∨ b = pb) := fun b hb => by
            rintro (⟨i, e⟩ | e)
            · exact HL.out.za i b hb e
            · exact HL.out.zp (e ▸ hb)
          have hZG := HG.out.z
          dsimp only at hZG
          have y3 := HPS.out.fr.cell c2 (hZX gb hZG)
          go_wp2_with fail
          go_loopw [17, 18, 19, 20, 133] (fun v17 v18 v19 v20 v133 wr => ∃ (k : Nat) (st4 : List NS), k ≤ N ∧ v133 = .int .i64 (k : Int) ∧ Hid (NsR wr A vs st4) ∧ Hid (∀ (i : Nat) (x : Nd) (s : NS), g.nodes[i]? = some x → st2[i]? = some s → st4[i]? = some (if i < k then endN past x s else s)) ∧ Hid (PastR wr B pb n N N rb past) ∧ Hid (Fr (fun b => (∃ i, A i b) ∨ b = pb) w0 wr)) (fun _ _ _ _ v133 _ => N - (intOf v133).toNat)
          case atStart => exact ⟨0, st2, Nat.zero_le _, rfl, HPS.out.ns, fun i x s _ hs => by rw [if_neg (Nat.not_lt_zero _)]; exact hs, by have h := HPS.out.rowsR; rw [HN.out, HB.out] at h; exact h, HPS.out.fr⟩
          case round =>
            obtain ⟨k, st4, hk, rfl, HNS, HST4, HPA4, HF4⟩ := hrel
            obtain ⟨wq, hwq⟩ : ∃ wq : World, wq = wr := ⟨_, rfl⟩
            subst hwq
            by_cases hkn : k = N
            · have h2 := hkn.symm
              subst h2
              clear hkn
              go_wp2_with fail
              go_end0
              have hpn : pieceN g order sts ls n = (past, st4) := by
                unfold pieceN
                rw [HP0.out, HPE.out]
                simp only [Prod.mk.injEq, true_and]
                apply List.ext_getElem?
                intro i
                rw [List.getElem?_zipWith]
                rcases Nat.lt_or_ge i g.nodes.length with hi | hi
                · have h1 : g.nodes[i]? = some g.nodes[i] := List.getElem?_eq_getElem hi
                  have h2 : st2[i]? = some (st2[i]'(by rw [HPS.out.ok.len]; exact hi)) := List.getElem?_eq_getElem _
                  rw [HST4.out i _ _ h1 h2, if_pos (by rw [← HN.out]; exact hi), h1, h2]
                · have e1 : g.nodes[i]? = none := List.getElem?_eq_none hi
                  have e2 : st4[i]? = none := List.getElem?_eq_none (by rw [← HNS.out.1, HG.out.len]; exact hi)
                  rw [e1, e2]
              rw [hpn]
              exact ⟨rfl, HNS.out, ⟨rb, by rw [HB.out]; exact HPA4.out⟩, HF4.out⟩
            have hkl : (k : Int) < (N : Int) := by omega
            have hkl2 : k < N := by omega
            have hwk : IntKind.i64.wrap ((k : Int) + 1) = (k : Int) + 1 := IntWalk.i64_in _ (by omega)
            have hkN : k < g.nodes.length := by rw [HN.out]; exact hkl2
            obtain ⟨x, hx⟩ : ∃ x, g.nodes[k]? = some x := ⟨_, List.getElem?_eq_getElem hkN⟩
            obtain ⟨s, hs⟩ : ∃ s, st2[k]? = some s := ⟨st2[k]'(by rw [HPS.out.ok.len]; exact hkN), List.getElem?_eq_getElem _⟩
            obtain ⟨v, hv⟩ : ∃ v, vs[k]? = some v := ⟨vs[k]'(by rw [HG.out.len]; exact hkN), List.getElem?_eq_getElem _⟩
            have hs4 := HST4.out k x s hx hs
            rw [if_neg (Nat.lt_irrefl k)] at hs4
            have hnode := HNS.out.2 k v s hv hs4
            have HNODE := Lib.hid hnode
            obtain ⟨b1, o1, rfl, hZ1, hvc⟩ := sla_at HG.out.vs hv
            have hvc2 := HF4.out.cell (hvc 0 _ rfl) (hZX b1 hZ1)
            rw [Nat.mul_one, Nat.add_zero] at hvc2
            obtain ⟨T, u, rfl, hlat⟩ := latent hnode
            have NEXT : Hid (∀ st5 : List NS, st5 = st4.set k (endN past x s) → ∀ (i : Nat) (x' : Nd) (s' : NS), g.nodes[i]? = some x' → st2[i]? = some s' → st5[i]? = some (if i < k + 1 then endN past x' s' else s')) := by
              rintro st5 rfl i x' s' hx' hs'
              by_cases e : k = i
              · subst e
                rw [hx] at hx'
                rw [hs] at hs'
                injection hx' with hx'
                injection hs' with hs'
                subst hx' hs'
                rw [List.getElem?_set_self (List.getElem?_eq_some_iff.1 hs4).1, if_pos (Nat.lt_succ_self _)]
              · rw [List.getElem?_set_ne e, HST4.out i x' s' hx' hs']
                by_cases h2 : i < k
                · rw [if_pos h2, if_pos (by omega)]
                · rw [if_neg h2, if_neg (by omega)]
            have HV := Lib.hid hv
            have HS4 := Lib.hid hs4
            have HX := Lib.hid hx
            have HS2 := Lib.hid hs
            clear hv hs4 hx hs hnode hvc HST4
            obtain ⟨dl, hdl⟩ : ∃ dl, isDel s = dl := ⟨_, rfl⟩
            have HDL := Lib.hid hdl
            rw [hdl] at hlat
            cases dl with
            | false =>
              have hend : endN past x s = s := by cases s <;> first | rfl | cases HDL.out
              have hset : st4 = st4.set k (endN past x s) := by
                rw [hend]
                apply List.ext_getElem?
                intro i
                by_cases e : k = i
                · subst e
                  rw [List.getElem?_set_self (List.getElem?_eq_some_iff.1 HS4.out).1, HS4.out]
                · rw [List.getElem?_set_ne e]
              have HN5 := Lib.hid (NEXT.out st4 hset)
              clear hset
              go_wp2_with fail
              refine ⟨?_, by simp [intOf]; omega⟩
              first
                | exact ⟨k + 1, st4, by omega, rfl, HNS.out, HN5.out, HPA4.out, HF4.out⟩
                | (repeat apply Exists.intro
                   refine ⟨?_, rfl⟩
                   exact ⟨k + 1, st4, by omega, rfl, HNS.out, HN5.out, HPA4.out, HF4.out⟩)
            | true =>
              obtain ⟨r, a, rfl⟩ : ∃ r a, s = .del r a := by
                cases s <;> first | exact ⟨_, _, rfl⟩ | cases HDL.out
              obtain ⟨hk6, kn, hfr⟩ := (HPS.out.ok.fits k x _ HX.out HS2.out).1 rfl
              obtain ⟨db, rb2, ys, e, hdb, hrb, hne, hdr, hyr, hyl, har, hr4⟩ := delay_of HNODE.out
              simp only [Value.iface.injEq] at e
              obtain ⟨rfl, rfl⟩ := e
              have hknN := ((HOK.out.refs k x HX.out).2 (kn : Int) (by rw [hfr]; exact List.mem_singleton.2 rfl)).2
              rw [HN.out] at hknN
              have hknn : kn < N := by omega
              obtain ⟨b5, o5, fa, fc, rfl, hZ5, _, hfc, hfrom⟩ := nds_at HG.out.nodes HX.out
              rw [hfr] at hfc hfrom
              obtain ⟨b6, o6, rfl, hZ6, hfcell⟩ := sla_at (i := 0) hfrom rfl
              have z1 := HF4.out.cell c0 (hZX gb hZG)
              have z6 := HF4.out.cell c6 (hZX gb hZG)
              have zf := HF4.out.cell hfc (hZX b5 hZ5)
              have ze := HF4.out.cell (hfcell 0 _ rfl) (hZX b6 hZ6)
              simp only [Nat.zero_mul, Nat.add_zero] at ze
              have zp := HPA4.out.at hknn
              obtain ⟨ys6, l6, hr6, hl6, hp6, hc6⟩ := HPA4.out.val kn hknn
              have hnk := HNS.out.2
              have HE : Hid (endN past x (.del r a) = .del (hearN r a l6).1 (hearN r a l6).2) := by
                unfold Hid endN
                simp only [hfr, List.getD_cons_zero]
                rw [getd_in rfl hp6]
              have hkA : ∀ b, Z b → ¬ A k b := fun b hb e => HL.out.za k b hb e
              have hpA := HL.out.ap k
              have hrA : ∀ b, A k b → b ≠ rb kn := fun b hb e => by
                have h1 := HL.out.al k b hb
                have h2 := HPA4.out.base kn hknn
                have h3 := HB.out
                unfold Hid at h3
                omega
              obtain ⟨rk, hrk⟩ : ∃ rk, rb kn = rk := ⟨_, rfl⟩
              rw [hrk] at zp hr6 hrA
              have hl6n : l6.length = n := by rw [← hc6, List.length_map]; exact hl6
              have HH : Hid (∀ w', wq.grownBy w' none → Calls Try.prog 67 #[.pointer (some ⟨db, 0, none⟩), .slice (some ⟨rk, 0, none⟩) n n] w' fun e w3 => e = .returned (.tuple #[]) ∧ Hid (∃ zs a2, DelR w3 db rb2 zs a2 ∧ zs.length = ys.length ∧ a2 < zs.length ∧ hearN (ys.map cn) a l6 = (zs.map cn, a2)) ∧ Hid (Fr (fun b => b = db ∨ b = rb2) w' w3)) := fun w' hg =>
                hear_calls db rb2 ys a (some ⟨rk, 0, none⟩) n n l6 w' hne ⟨row_kept hg hdr.1 (by simp), row_kept hg hdr.2 (by simp)⟩ (by omega) (by omega) (by omega) ⟨ys6, RowF.fl (row_kept hg hr6 (by simp)) hl6 ⟨fun e => hrA db hdb e.symm, fun e => hrA rb2 hrb e.symm⟩ n, hc6⟩ hl6n hn
              have HYR := Lib.hid hyr
              have HYL := Lib.hid hyl
              have HRL : Hid (r.length ≤ 4096) := hr4
              have mt := hear98 ⟨db, 0, none⟩
              clear hfc hfrom hfcell hr6 hl6 hp6 hc6 hdr hyr hl6n hrk
              have hne2 := LaterX.nonempty (fun b => b = db ∨ b = rb2) wq
              have hXA : ∀ b, (b = db ∨ b = rb2) → A k b := fun b hb => hb.elim (fun e => by rw [e]; exact hdb) (fun e => by rw [e]; exact hrb)
              have k1 : ∀ n2 : LaterX (fun b => b = db ∨ b = rb2) wq, n2.w.cell? ⟨gb, 1, none⟩ = some (.slice (some ⟨b5, o5, none⟩) N nc) := LaterX.cell z1 (fun e => hkA gb hZG (hXA _ e))
              have k2 : ∀ n2 : LaterX (fun b => b = db ∨ b = rb2) wq, n2.w.cell? ⟨gb, 6, none⟩ = some (.slice (some ⟨pb, 0, none⟩) N N) := LaterX.cell z6 (fun e => hkA gb hZG (hXA _ e))
              have k3 : ∀ n2 : LaterX (fun b => b = db ∨ b = rb2) wq, n2.w.cell? ⟨b5, o5 + k * 16 + 1, none⟩ = some (.slice (some ⟨b6, o6, none⟩) 1 fc) := LaterX.cell zf (fun e => hkA b5 hZ5 (hXA _ e))
              have k4 : ∀ n2 : LaterX (fun b => b = db ∨ b = rb2) wq, n2.w.cell? ⟨b6, o6, none⟩ = some (.int .i64 (kn : Int)) := LaterX.cell ze (fun e => hkA b6 hZ6 (hXA _ e))
              have k5 : ∀ n2 : LaterX (fun b => b = db ∨ b = rb2) wq, n2.w.cell? ⟨pb, kn, none⟩ = some (.slice (some ⟨rk, 0, none⟩) n n) := LaterX.cell zp (fun e => hpA (hXA _ e))
              go_upto_region 27 with fail
              refine Mixed.wp_region_mixed (lateX (fun b => b = db ∨ b = rb2) wq) (fun k => k == 18 || k == 21) (by kernel_rfl) (by kernel_rfl) ⟨⟨wq.drew, fr_drewN (Fr.refl _ _) 1⟩, rfl⟩ ?_
              unfold lateX
              refine Mixed.wpM_quiet rfl rfl rfl ?_; intro Kx hKx; go_big_quiet_op; go_big_quiet_on
              refine Mixed.wpM_quiet rfl rfl rfl ?_; intro Kx hKx; go_big_quiet_op; go_big_quiet_on
              refine wpM_nc rfl rfl _ ⟨gb, 0, none⟩ rfl rfl ?_; go_simp
              refine Mixed.wpM_quiet rfl rfl rfl ?_; intro Kx hKx; go_big_quiet_op; go_big_quiet_on
              refine Mixed.wpM_quiet rfl rfl rfl ?_; intro Kx hKx; go_big_quiet_op; go_big_quiet_on
              refine Mixed.wpM_quiet rfl rfl rfl ?_; intro Kx hKx; go_big_quiet_op; go_big_quiet_on
              refine wpM_nc rfl rfl _ ⟨gb, 0, none⟩ rfl rfl ?_; go_simp
              refine Mixed.wpM_quiet rfl rfl rfl ?_; intro Kx hKx; go_big_quiet_op; go_big_quiet_on
              refine Mixed.wpM_quiet rfl rfl rfl ?_; intro Kx hKx; go_big_quiet_op; go_big_quiet_on
              refine Mixed.wpM_quiet rfl rfl rfl ?_; intro Kx hKx; go_big_quiet_op; go_big_quiet_on
              refine Mixed.wpM_quiet rfl rfl rfl ?_; intro Kx hKx; go_big_quiet_op; go_big_quiet_on
              refine Mixed.wpM_quiet rfl rfl rfl ?_; intro Kx hKx; go_big_quiet_op; go_big_quiet_on
              refine Mixed.wpM_quiet rfl rfl rfl ?_; intro Kx hKx; go_big_quiet_op; go_big_quiet_on
              refine Mixed.wpM_quiet rfl rfl rfl ?_; intro Kx hKx; go_big_quiet_op; go_big_quiet_on
              refine Mixed.wpM_quiet rfl rfl rfl ?_; intro Kx hKx; go_big_quiet_op; go_big_quiet_on
              refine Mixed.wpM_quiet rfl rfl rfl ?_; intro Kx hKx; go_big_quiet_op; go_big_quiet_on
              refine Mixed.wpM_quiet rfl rfl rfl ?_; intro Kx hKx; go_big_quiet_op; go_big_quiet_on
              refine Mixed.wpM_quiet rfl rfl rfl ?_; intro Kx hKx; go_big_quiet_op; go_big_quiet_on
              refine Mixed.wpM_make rfl rfl (.func (.method "cantus/graph.hear") #[.iface 98 (.pointer (some ⟨db, 0, none⟩))] #[]) wq.drew (by go_simp) ⟨⟨wq.drew, fr_drewN (Fr.refl _ _) 1⟩, rfl⟩ ?_
              go_simp
              refine wpM_ncf rfl rfl _ "cantus/graph.hear" ⟨db, 0, none⟩ (ahead_hear _) rfl rfl ?_
              go_simp
              refine Mixed.wpM_quiet rfl rfl rfl ?_; intro Kx hKx; go_big_quiet_op; go_big_quiet_on
              refine Mixed.wpM_call rfl rfl 67 #[.pointer (some ⟨db, 0, none⟩), .slice (some ⟨rk, 0, none⟩) n n] (by go_simp) ?_
              refine (HH.out _ (grown_drew (grown_refl _ _))).mono ?_
              rintro ez w3 ⟨rfl, hzs, hf⟩
              refine ⟨_, rfl, ⟨⟨w3, (fr_drewN (Fr.refl _ _) 1).trans hf.out⟩, rfl⟩, ?_⟩
              refine Mixed.wpM_nil ?_
              intro nx hnx
              dsimp only [Act.put]
              clear nx hnx k1 k2 k3 k4 k5 hne2
              obtain ⟨zs, a2, hdr3, hzl, ha2, hzh⟩ := hzs.out
              have hfq : Fr (fun b => b = db ∨ b = rb2) wq w3 := (fr_drewN (Fr.refl _ _) 1).trans hf.out
              rw [HYR.out] at hzh
              have hlen3 : (zs.map cn).length = zs.length := List.length_map ..
              have hN5 : NodeR w3 (A k) (.iface 98 (.pointer (some ⟨db, 0, none⟩))) (endN past x (.del r a)) := by
                rw [HE.out, hzh]
                refine ⟨db, rb2, zs, hdb, hrb, hne, rfl, ?_, hdr3.2, rfl, by rw [hlen3]; exact ha2, by rw [hlen3, hzl, HYL.out]; exact HRL.out⟩
                rw [hlen3]
                exact hdr3.1
              have HNS5 : Hid (NsR w3 A vs (st4.set k (endN past x (.del r a)))) := HNS.out.set HV.out hN5 hfq (fun j b hjk hb e => hjk (HL.out.aa j k b hb (hXA b e)))
              have HN5 := Lib.hid (NEXT.out _ rfl)
              have HPA5 : Hid (PastR w3 B pb n N N rb past) := HPA4.out.fr hfq (fun e => hpA (hXA _ e)) (fun i hi e => by
                have h1 := HL.out.al k _ (hXA _ e)
                have h2 := HPA4.out.base i hi
                have h3 := HB.out
                unfold Hid at h3
                omega)
              have HF5 : Hid (Fr (fun b => (∃ i, A i b) ∨ b = pb) w0 w3) := HF4.out.trans (hfq.mono (fun b hb => .inl ⟨k, hXA b hb⟩))
              clear hN5 hdr3 hf
              go_wp2_with fail
              refine ⟨?_, by simp [intOf]; omega⟩
              first
                | exact ⟨k + 1, _, by omega, rfl, HNS5.out, HN5.out, HPA5.out, HF5.out⟩
                | (repeat apply Exists.intro
                   refine ⟨?_, rfl⟩
                   exact ⟨k + 1, _, by omega, rfl, HNS5.out, HN5.out, HPA5.out, HF5.out⟩)
        have hjl : (j : Int) < (R : Int) := by omega
        have hjl2 : j < R := by omega
        have hwj : IntKind.i64.wrap ((j : Int) + 1) = (j : Int) + 1 := IntWalk.i64_in _ (by have := HOK.out.ordl; have := HR.out; unfold Hid at this; omega)
        obtain ⟨i, hji⟩ : ∃ i, order[j]? = some i := ⟨order[j]'(by rw [HR.out]; exact hjl2), List.getElem?_eq_getElem _⟩
        obtain ⟨hiN, hiD⟩ := HOK.out.ord i (List.mem_of_getElem? hji)
        obtain ⟨x, hx⟩ : ∃ x, g.nodes[i]? = some x := ⟨_, List.getElem?_eq_getElem hiN⟩
        obtain ⟨s, hs⟩ : ∃ s, st2[i]? = some s := ⟨st2[i]'(by rw [HPS.out.ok.len]; exact hiN), List.getElem?_eq_getElem _⟩
        obtain ⟨v, hv⟩ : ∃ v, vs[i]? = some v := ⟨vs[i]'(by rw [HG.out.len]; exact hiN), List.getElem?_eq_getElem _⟩
        rw [HN.out] at hiN
        have hiNi : (i : Int) < (N : Int) := by omega
        have HJI := Lib.hid hji
        have HX := Lib.hid hx
        have HST := Lib.hid hs
        have hZX : ∀ b, Z b → ¬ ((∃ i, A i b) ∨ b = pb) := fun b hb => by
          rintro (⟨i, e⟩ | e)
          · exact HL.out.za i b hb e
          · exact HL.out.zp (e ▸ hb)
        have hZG := HG.out.z
        dsimp only at hZG
        obtain ⟨b4, o4, rfl, hZ4, hoc⟩ := sla_at (i := j) (x := (i : Int)) HG.out.order (by rw [List.getElem?_map, hji]; rfl)
        have hoc2 := HPS.out.fr.cell (hoc 0 _ rfl) (hZX b4 hZ4)
        rw [Nat.mul_one, Nat.add_zero] at hoc2
        obtain ⟨b1, o1, rfl, hZ1, hvc⟩ := sla_at HG.out.vs hv
        have hvc2 := HPS.out.fr.cell (hvc 0 _ rfl) (hZX b1 hZ1)
        rw [Nat.mul_one, Nat.add_zero] at hvc2
        obtain ⟨b5, o5, fa, fc, rfl, hZ5, _, hfc, hfrom⟩ := nds_at HG.out.nodes hx
        have hfc2 := HPS.out.fr.cell hfc (hZX b5 hZ5)
        have HFROM := Lib.hid hfrom
        have y1 := HPS.out.fr.cell c0 (hZX gb hZG)
        have y3 := HPS.out.fr.cell c2 (hZX gb hZG)
        have y6 := HPS.out.fr.cell c6 (hZX gb hZG)
        have HNODE : Hid (NodeR wy (A i) v s) := HPS.out.ns.2 i v s hv hs
        obtain ⟨T, u, rfl, en, eb, hent, hent1, hent0⟩ := entry2 HNODE.out
        have HV := Lib.hid hv
        clear hji hx hs hoc hvc hfc hfrom hv
        obtain ⟨ob, hob⟩ : ∃ ob, rb i = ob := ⟨_, rfl⟩
        have HOB := Lib.hid hob
        obtain ⟨A2, hA2⟩ : ∃ A2 : Nat → Prop, (fun b => b ≠ ob ∧ ¬ A i b ∧ b < wy.heap.size) = A2 := ⟨_, rfl⟩
        have HA2 : Hid (∀ b, A2 b ↔ (b ≠ ob ∧ ¬ A i b ∧ b < wy.heap.size)) := fun b => by rw [← hA2]
        clear hob hA2
        go_upto_if 78 with fail
        go_cut [12] from 64 to 127 (fun v12 wx => ∃ us, Hid (HrR wx wy.heap.size A2 v12 us (e0N ls s)) ∧ Hid (wy.grownBy wx none))
        case first =>
          cases eb with
          | false =>
            have he : e0N ls s = [] := by cases s <;> first | rfl | exact absurd rfl (hent0 rfl _)
            have HE := Lib.hid he
            clear he
            go_wp2_with fail
            go_meet
            exact ⟨[], by rw [HE.out]; exact HrR.nil _ _ _, grown_refl _ _⟩
          | true =>
            have hse := hent1 rfl
            subst hse
            have hen := ((HPS.out.ok.fits i x _ HX.out HST.out).2.2.1 en rfl).1
            rw [← HIL.out] at hen
            have hen2 : en < ls.length := by omega
            obtain ⟨l, hl⟩ : ∃ l, ls[en]? = some l := ⟨_, List.getElem?_eq_getElem hen2⟩
            have HE : Hid (e0N ls (.ent en) = [l]) := by
              show [ls.getD en []] = [l]
              rw [List.getD_eq_getElem?_getD, hl]
              rfl
            obtain ⟨bi, oi, ro, rc2, e, hIb, hic, hil⟩ := cll_at HIN.out hl
            subst e
            have hXI : ∀ b, I b → ¬ ((∃ i, A i b) ∨ b = pb) := fun b hb => by
              rintro (⟨i, e⟩ | e)
              · exact (HI.out b hb).2.2 i e
              · exact (HI.out b hb).2.1 e
            have hic2 := HPS.out.fr.cell hic (hXI bi hIb)
            have hil2 := (hil.fr HPS.out.fr hXI).mono (A' := A2) (fun b hb => (HA2.out b).2 ⟨fun e => by
              have h1 := (HI.out b hb).1
              have h2 := HPS.out.rowsR.base i (by rw [HN.out]; exact hiN)
              have h3 := HOB.out
              unfold Hid at h3
              omega, (HI.out b hb).2.2 i, Nat.lt_of_lt_of_le (HI.out b hb).1 HPS.out.fr.size⟩)
            have HIL2 := Lib.hid hil2
            have HGA : Hid (wy.grownBy (wy.alloc (.cells #[.slice ro l.length rc2] 38)) none) := grown_alloc (grown_refl _ _) _
            clear hil hil2 hic hl
            go_wp2_with fail
            go_meet
            refine ⟨[.slice ro l.length rc2], ⟨?_, by rw [HE.out]; rfl, fun q u' l' hu' hl' => ?_⟩, HGA.out⟩
            · exact own_of_row (Nat.le_refl _) (heap_alloc_new wy _) (Nat.le_refl _) (by unfold maxLen; decide) rfl rfl one_get
            · rw [HE.out] at hl'
              cases q with
              | zero =>
                simp at hu' hl'
                subst hu' hl'
                exact HIL2.out.grown HGA.out
              | succ q => simp at hu'
        obtain ⟨us0, HU0, HG0⟩ := hcut
        obtain ⟨wx, hwx⟩ : ∃ wx : World, wx = wc := ⟨_, rfl⟩
        subst hwx
        have x1 := grown_cell HG0.out y1 (by simp)
        have x3 := grown_cell HG0.out y3 (by simp)
        have x6 := grown_cell HG0.out y6 (by simp)
        have xf := grown_cell HG0.out hfc2 (by simp)
        have xv := grown_cell HG0.out hvc2 (by simp)
        have yv := hvc2
        clear hfc2 hvc2 hoc2 hent hent1 hent0 x3 x6 xv
        obtain ⟨M, hM⟩ : ∃ M, x.from_.length = M := ⟨_, rfl⟩
        have HM := Lib.hid hM
        rw [hM] at xf
        have hM2 : M ≤ 1048576 := by rw [← hM]; exact (HOK.out.refs i x HX.out).1
        have HF1 : Hid (SlA 1 iC wy Z (.slice fa M fc) x.from_) := by
          unfold Hid
          rw [← hM]
          exact HFROM.out.fr HPS.out.fr hZX
        clear hM HFROM
        obtain ⟨j0, hj38, hj0, hj1, hj2⟩ : ∃ j0, Try.prog.info? 38 = some j0 ∧ j0.zero = some (.slice none 0 0) ∧ j0.size = 1 ∧ j0.bytes = 24 := info_parts info38
        have hbx := HG0.out.size
        have HOBB : Hid (B ≤ ob) := by
          have h2 := HPS.out.rowsR.base i (by rw [HN.out]; exact hiN)
          rw [HOB.out, HB.out] at h2
          exact h2
        have HA2L : Hid (∀ b, wy.heap.size ≤ b → b ≠ ob ∧ ¬ A i b) := fun b hb => ⟨fun e => by
          obtain ⟨ys, l, h1, _⟩ := HPS.out.rowsR.val i (by rw [HN.out]; exact hiN)
          have h2 := lt_of h1
          have h3 := HOB.out
          unfold Hid at h3
          omega, fun e => by
          have h1 := HL.out.al i b e
          have h2 := HPS.out.fr.size
          omega⟩
        go_wp2_with fail
        go_loopw [12, 16, 94] (fun v12 v16 v94 wr => ∃ (q : Nat) (us : List Value), q ≤ M ∧ v94 = .int .i64 (q : Int) ∧ Hid (HrR wr wy.heap.size A2 v12 us (e0N ls s ++ (x.from_.take q).map fun k => past.getD k.toNat [])) ∧ Hid (wy.grownBy wr none)) (fun _ _ v94 _ => M - (intOf v94).toNat)
        case atStart => exact ⟨0, us0, Nat.zero_le _, rfl, by unfold Hid; rw [List.take_zero, List.map_nil, List.append_nil]; exact HU0.out, HG0.out⟩
        case round =>
          obtain ⟨q, us, hq, rfl, HU, HGX⟩ := hrel
          obtain ⟨wu, hwu⟩ : ∃ wu : World, wu = wr := ⟨_, rfl⟩
          subst hwu
          clear HU0
          by_cases hqM : q = M
          · have h2 := hqM.symm
            subst h2
            clear hqM
            have HPU := Lib.hid (HPS.out.grown HGX.out)
            obtain ⟨oa2, oc2, rfl⟩ := own_slice HU.out.own
            have hlen := HU.out.len
            have hheard : e0N ls s ++ (x.from_.take M).map (fun k => past.getD k.toNat []) = heardN ls past x s := by
              rw [heard_eq, List.take_of_length_le (by rw [HM.out]; exact Nat.le_refl _)]
            have hcll := HU.out.cll (A' := fun b => b ≠ ob ∧ ¬ A i b) (fun b hb => ⟨((HA2.out b).1 hb).1, ((HA2.out b).1 hb).2.1⟩) HA2L.out
            rw [hheard] at hlen hcll
            have hD : isDel s = false := by
              cases hd : isDel s with
              | false => rfl
              | true =>
                have h6 := ((HPS.out.ok.fits i x s HX.out HST.out).1 hd).1
                have hD2 := (HOK.out.ord i (List.mem_of_getElem? HJI.out)).2
                unfold isD at hD2
                rw [HX.out] at hD2
                simp [h6] at hD2
            have hall : ∀ l ∈ heardN ls past x s, l.length = n := by
              rw [heard_eq]
              intro l hl
              rcases List.mem_append.1 hl with hl | hl
              · cases hs2 : s with
                | ent en2 =>
                  rw [hs2] at hl
                  have hen := ((HPS.out.ok.fits i x _ HX.out HST.out).2.2.1 en2 hs2).1
                  rw [← HIL.out] at hen
                  have hen2 : en2 < ls.length := by omega
                  simp only [e0N, List.mem_singleton] at hl
                  rw [hl, List.getD_eq_getElem?_getD, List.getElem?_eq_getElem hen2]
                  exact HLS.out _ (List.getElem_mem _)
                | _ => rw [hs2] at hl; simp [e0N] at hl
              · obtain ⟨k, hk, rfl⟩ := List.mem_map.1 hl
                obtain ⟨hk0, hkN⟩ := (HOK.out.refs i x HX.out).2 k hk
                obtain ⟨kn, rfl⟩ : ∃ kn : Nat, k = (kn : Int) := Int.eq_ofNat_of_zero_le hk0
                obtain ⟨ys, l, _, h2, h3, h4⟩ := HPU.out.rowsR.val kn (by omega)
                rw [getd_in rfl h3, ← h4, List.length_map]
                exact h2
            have har : arity s (heardN ls past x s).length := by
              rw [heard_eq, List.length_append, List.length_map]
              obtain ⟨_, _, _, h4⟩ := HPS.out.ok.fits i x s HX.out HST.out
              cases hs2 : s with
              | ent en2 => simp [arity, e0N]
              | _ => rw [hs2] at h4; simpa [e0N] using h4 (fun k e => by cases e)
            have hrow := HPU.out.row0 HJI.out
            rw [HOB.out] at hrow
            have hAob : ¬ A i ob := fun e => by
              have h1 := HL.out.al i ob e
              have h2 := HOBB.out
              have h3 := HB.out
              unfold Hid at h2 h3
              omega
            have hmm : us.length ≤ 1099511627776 := by
              rw [hlen, heard_eq, List.length_append, List.length_map, HM.out]
              have : (e0N ls s).length ≤ 1 := by cases s <;> simp [e0N]
              omega
            obtain ⟨T2, u2, F, e, hmt, hent, hcalls⟩ := node_run (w := wu.drew) (HPU.out.ns.2 i _ s HV.out HST.out) hD oa2 us.length oc2 ob n (heardN ls past x s) hcll hlen.symm hmm hall (by rw [hlen]; exact har) hn0 hn hrow hAob
            simp only [Value.iface.injEq] at e
            obtain ⟨rfl, rfl⟩ := e
            have HC := Lib.hid hcalls
            have up := HPU.out.rowsR.at (i := i) (by rw [HN.out]; exact hiN)
            rw [HOB.out] at up
            have u3 := grown_cell HGX.out y3 (by simp)
            have u6 := grown_cell HGX.out y6 (by simp)
            have uv := grown_cell HGX.out yv (by simp)
            have hZo : ∀ b, Z b → ¬ (A i b ∨ b = ob) := fun b hb => by
              rintro (e | e)
              · exact HL.out.za i b hb e
              · have h1 := HL.out.zl b hb
                have h2 := HOBB.out
                have h3 := HB.out
                unfold Hid at h2 h3
                omega
            have hpo : ¬ (A i pb ∨ pb = ob) := by
              rintro (e | e)
              · exact HL.out.ap i e
              · have h1 := HL.out.pl
                have h2 := HOBB.out
                have h3 := HB.out
                unfold Hid at h2 h3
                omega
            have hne2 := LaterX.nonempty (fun b => A i b ∨ b = ob) wu
            have k1 : ∀ n2 : LaterX (fun b => A i b ∨ b = ob) wu, n2.w.cell? ⟨gb, 3, none⟩ = some (.slice (some ⟨b1, o1, none⟩) N vc) := LaterX.cell u3 (hZo gb hZG)
            have k2 : ∀ n2 : LaterX (fun b => A i b ∨ b = ob) wu, n2.w.cell? ⟨gb, 6, none⟩ = some (.slice (some ⟨pb, 0, none⟩) N N) := LaterX.cell u6 (hZo gb hZG)
            have k3 : ∀ n2 : LaterX (fun b => A i b ∨ b = ob) wu, n2.w.cell? ⟨b1, o1 + i, none⟩ = some (.iface T u) := LaterX.cell uv (hZo b1 hZ1)
            have k4 : ∀ n2 : LaterX (fun b => A i b ∨ b = ob) wu, n2.w.cell? ⟨pb, i, none⟩ = some (.slice (some ⟨ob, 0, none⟩) n n) := LaterX.cell up hpo
            obtain ⟨mu, hmu⟩ : ∃ mu, us.length = mu := ⟨_, rfl⟩
            rw [hmu]
            rw [hmu] at hcalls HC
            clear hcll hlen hheard hall har hrow hmm hD hcalls hmu
            go_upto_region 20 with fail
            refine Mixed.wp_region_mixed (lateX (fun b => A i b ∨ b = ob) wu) (fun k => k == 17) (by kernel_rfl) (by kernel_rfl) ⟨⟨wu.drew, fr_drewN (Fr.refl _ _) 1⟩, rfl⟩ ?_
            unfold lateX
            refine Mixed.wpM_quiet rfl rfl rfl ?_; intro Kx hKx; go_big_quiet_op; go_big_quiet_on
            refine wpM_nc rfl rfl _ ⟨gb, 0, none⟩ rfl rfl ?_; go_simp
            refine Mixed.wpM_quiet rfl rfl rfl ?_; intro Kx hKx; go_big_quiet_op; go_big_quiet_on
            refine Mixed.wpM_quiet rfl rfl rfl ?_; intro Kx hKx; go_big_quiet_op; go_big_quiet_on
            refine Mixed.wpM_quiet rfl rfl rfl ?_; intro Kx hKx; go_big_quiet_op; go_big_quiet_on
            refine Mixed.wpM_quiet rfl rfl rfl ?_; intro Kx hKx; go_big_quiet_op; go_big_quiet_on
            refine Mixed.wpM_quiet rfl rfl rfl ?_; intro Kx hKx; go_big_quiet_op; go_big_quiet_on
            refine Mixed.wpM_quiet rfl rfl rfl ?_; intro Kx hKx; go_big_quiet_op; go_big_quiet_on
            refine Mixed.wpM_quiet rfl rfl rfl ?_; intro Kx hKx; go_big_quiet_op; go_big_quiet_on
            refine wpM_nc rfl rfl _ ⟨gb, 0, none⟩ rfl rfl ?_; go_simp
            refine Mixed.wpM_quiet rfl rfl rfl ?_; intro Kx hKx; go_big_quiet_op; go_big_quiet_on
            refine Mixed.wpM_quiet rfl rfl rfl ?_; intro Kx hKx; go_big_quiet_op; go_big_quiet_on
            refine Mixed.wpM_quiet rfl rfl rfl ?_; intro Kx hKx; go_big_quiet_op; go_big_quiet_on
            refine Mixed.wpM_quiet rfl rfl rfl ?_; intro Kx hKx; go_big_quiet_op; go_big_quiet_on
            refine Mixed.wpM_quiet rfl rfl rfl ?_; intro Kx hKx; go_big_quiet_op; go_big_quiet_on
            refine wpM_nci rfl rfl _ T u rfl rfl ?_; go_simp
            refine Mixed.wpM_quiet rfl rfl rfl ?_; intro Kx hKx; go_big_quiet_op; go_big_quiet_on
            refine Mixed.wpM_call rfl rfl F #[u, .slice oa2 mu oc2, .slice (some ⟨ob, 0, none⟩) n n] (by go_simp) ?_
            refine (HC.out).mono ?_
            rintro ez w3 ⟨rfl, hrp⟩
            have HRP := Lib.hid hrp.out
            refine ⟨_, rfl, ⟨⟨w3, (fr_drewN (Fr.refl _ _) 1).trans hrp.out.2.2⟩, rfl⟩, ?_⟩
            refine Mixed.wpM_nil ?_
            intro nx hnx
            dsimp only [Act.put]
            have HNEXT : Hid (PS w0 w3 A pb n vs g order ls p0 sts rb (j + 1) (past.set i (GMod.runN s (heardN ls past x s) n).1) (st2.set i (GMod.runN s (heardN ls past x s) n).2)) := by
              refine (HPU.out.grown (grown_drew (grown_refl _ _))).next HL.out HJI.out HX.out HST.out HV.out ?_
              rw [HOB.out]
              exact HRP.out
            clear nx hnx k1 k2 k3 k4 hne2 hrp
            go_wp2_with fail
            refine ⟨?_, by simp [intOf]; omega⟩
            first
              | exact ⟨j + 1, _, _, by omega, rfl, HNEXT.out⟩
              | (repeat apply Exists.intro
                 refine ⟨?_, rfl⟩
                 exact ⟨j + 1, _, _, by omega, rfl, HNEXT.out⟩)
          have hql : (q : Int) < (M : Int) := by omega
          have hql2 : q < M := by omega
          have hwq : IntKind.i64.wrap ((q : Int) + 1) = (q : Int) + 1 := IntWalk.i64_in _ (by omega)
          obtain ⟨kz, hkz⟩ : ∃ kz, x.from_[q]? = some kz := ⟨x.from_[q]'(by rw [HM.out]; exact hql2), List.getElem?_eq_getElem _⟩
          obtain ⟨kn, rfl⟩ : ∃ kn : Nat, kz = (kn : Int) := Int.eq_ofNat_of_zero_le ((HOK.out.refs i x HX.out).2 kz (List.mem_of_getElem? hkz)).1
          have hknN := ((HOK.out.refs i x HX.out).2 _ (List.mem_of_getElem? hkz)).2
          rw [HN.out] at hknN
          have hknn : kn < N := by omega
          have hkni : kn ≠ i := fun e => (HOK.out.self i (List.mem_of_getElem? HJI.out) x HX.out _ (List.mem_of_getElem? hkz)) (by rw [e])
          obtain ⟨b6, o6, rfl, hZ6, hfcell⟩ := sla_at HF1.out hkz
          have u1 := grown_cell HGX.out (hfcell 0 _ rfl) (by simp)
          rw [Nat.mul_one, Nat.add_zero] at u1
          have u6 := grown_cell HGX.out y6 (by simp)
          have HPU := Lib.hid (HPS.out.grown HGX.out)
          have up := HPU.out.rowsR.at (by rw [HN.out]; exact hknn)
          obtain ⟨ys6, l6, hr6, hl6, hp6, hc6⟩ := HPU.out.rowsR.val kn (by rw [HN.out]; exact hknn)
          have hsA : A2 (rb kn) := (HA2.out _).2 ⟨fun e => hkni (HPU.out.rowsR.inj kn i (by rw [HN.out]; exact hknn) (by rw [HN.out]; exact hiN) (by rw [HOB.out]; exact e)), fun e => by
            have h1 := HL.out.al i _ e
            have h2 := HPU.out.rowsR.base kn (by rw [HN.out]; exact hknn)
            omega, by
            obtain ⟨ys, l, h1, _⟩ := HPS.out.rowsR.val kn (by rw [HN.out]; exact hknn)
            exact lt_of h1⟩
          obtain ⟨rk, hrk⟩ : ∃ rk, rb kn = rk := ⟨_, rfl⟩
          rw [hrk] at up hr6 hsA
          have HU6 : Hid (CFl wu A2 (.slice (some ⟨rk, 0, none⟩) n n) l6) := ⟨ys6, RowF.fl hr6 hl6 hsA n, hc6⟩
          have HRKL : Hid (rk < wu.heap.size) := lt_of hr6
          have HTK : Hid ((x.from_.take (q + 1)).map (fun k => past.getD k.toNat []) = ((x.from_.take q).map fun k => past.getD k.toNat []) ++ [l6]) := by
            unfold Hid
            rw [take_next hkz, List.map_append, List.map_singleton, getd_in rfl hp6]
          obtain ⟨oa2, oc2, rfl⟩ := own_slice HU.out.own
          obtain ⟨mu, hmu⟩ : ∃ mu, us.length = mu := ⟨_, rfl⟩
          have hmq : mu ≤ q + 1 := by
            rw [← hmu, HU.out.len, List.length_append, List.length_map, List.length_take]
            have : (e0N ls s).length ≤ 1 := by cases s <;> simp [e0N]
            omega
          have HOW : Hid (wu.ownsRow wy.heap.size 38 1 (.slice oa2 mu oc2) mu (flC vC us)) := by unfold Hid; have h := HU.out.own; rw [hmu] at h; exact h
          have HMU := Lib.hid hmu
          rw [hmu]
          have HGA : Hid (wu.grownBy (wu.alloc (.cells #[.slice (some ⟨rk, 0, none⟩) n n] 38)) none) := grown_alloc (grown_refl _ _) _
          clear hkz hfcell hr6 hl6 hp6 hc6 hsA hrk hmu
          go_upto_region 19 with (at_builtin; refine wpList_append_own_at _ rfl _ _ 32 rfl wy.heap.size 38 j0 (.slice none 0 0) 1 24 Try.underlying32 hj38 hj0 hj1 hj2 rfl (by decide) (.slice oa2 mu oc2) mu (flC vC us) rfl (own_kept HOW.out HGA.out) ⟨wu.heap.size, 0, none⟩ 1 1 [.slice (some ⟨rk, 0, none⟩) n n] rfl rfl (fun j u hu => by rw [show ((⟨wu.heap.size, 0, none⟩ : Addr).add j) = ⟨wu.heap.size, 0 + j, none⟩ from Addr.add_lit _ _ _, Nat.zero_add, cell_of (heap_alloc_new _ _), ← Array.getElem?_toList]; exact hu) (by simp [Value.oneCell']) (by unfold maxLen; omega) (by omega) (by have h1 := HGX.out.size; have h2 := HGA.out.size; omega) ?_; intro v11 w11 ho11 hg11 _ hb11; obtain ⟨oa3, oc3, rfl⟩ := own_slice ho11)
          have HFIN : Hid (HrR w11 wy.heap.size A2 (.slice oa3 (mu + 1) oc3) (us ++ [.slice (some ⟨rk, 0, none⟩) n n]) (e0N ls s ++ (x.from_.take (q + 1)).map fun k => past.getD k.toNat [])) := by
            unfold Hid
            rw [HTK.out, ← List.append_assoc]
            refine (HU.out.grown HGA.out).next (by rw [HMU.out]; exact ho11) (.of hg11 (fun i e => by rw [HMU.out]; exact e)) (HU6.out.grown HGA.out) (fun b hb e => ?_)
            rw [HMU.out] at e
            have h1 := ((HA2.out b).1 hb).2.2
            have h2 := (own_base HOW.out e).1
            omega
          have HGN : Hid (wy.grownBy w11 none) := grown_own (grown_trans HGX.out HGA.out) (own_kept HOW.out HGA.out) (Nat.le_refl _) hg11
          go_wp2_with fail
          refine ⟨?_, by simp [intOf]; omega⟩
          first
            | exact ⟨q + 1, _, by omega, rfl, HFIN.out, HGN.out⟩
            | (repeat apply Exists.intro
               refine ⟨?_, rfl⟩
               exact ⟨q + 1, _, by omega, rfl, HFIN.out, HGN.out⟩)
    have hkl : (k : Int) < (N : Int) := by omega
    have hkl2 : k < N := by omega
    have hwk : IntKind.i64.wrap ((k : Int) + 1) = (k : Int) + 1 := IntWalk.i64_in _ (by omega)
    obtain ⟨v, hv⟩ : ∃ v, vs[k]? = some v := ⟨vs[k]'(by rw [HG.out.len, HN.out]; exact hkl2), List.getElem?_eq_getElem _⟩
    obtain ⟨s, hs⟩ : ∃ s, sts[k]? = some s := ⟨sts[k]'(by rw [HOK.out.len, HN.out]; exact hkl2), List.getElem?_eq_getElem _⟩
    obtain ⟨b1, o1, rfl, hZ1, hvc⟩ := sla_at HG.out.vs hv
    have hvc2 := HF.out.cell (hvc 0 _ rfl) (fun e => HL.out.zp (by rw [← show b1 = pb from e]; exact hZ1))
    rw [Nat.mul_one, Nat.add_zero] at hvc2
    have d2 := HF.out.cell c2 hgp
    have d6 := HF.out.cell c6 hgp
    have hnode := (HS.out.2 k v s hv hs).fr HF.out (fun b hb e => HL.out.ap k (by rw [← show b = pb from e]; exact hb))
    have HNODE := Lib.hid hnode
    obtain ⟨T, u, rfl, hlat⟩ := latent hnode
    clear hnode hvc
    have hne := LaterX.nonempty (fun b => b = pb) wz
    have k1 : ∀ n2 : LaterX (fun b => b = pb) wz, n2.w.cell? ⟨gb, 6, none⟩ = some (.slice (some ⟨pb, 0, none⟩) N N) := LaterX.cell d6 hgp
    have hnN : (n : Int) ≤ 65536 := by omega
    go_upto_region 3 with fail
    refine Mixed.wp_region_mixed (lateX (fun b => b = pb) wz) (fun k => k == 6 || k == 8) (by kernel_rfl) (by kernel_rfl) ⟨⟨wz.drew, fr_drewN (Fr.refl _ _) 1⟩, rfl⟩ ?_
    unfold lateX
    refine Mixed.wpM_quiet rfl rfl rfl ?_; intro Kx hKx; go_big_quiet_op; go_big_quiet_on
    refine wpM_nc rfl rfl _ ⟨gb, 0, none⟩ rfl rfl ?_; go_simp
    refine Mixed.wpM_quiet rfl rfl rfl ?_; intro Kx hKx; go_big_quiet_op; go_big_quiet_on
    refine Mixed.wpM_quiet rfl rfl rfl ?_; intro Kx hKx; go_big_quiet_op; go_big_quiet_on
    refine Mixed.wpM_quiet rfl rfl rfl ?_; intro Kx hKx; go_big_quiet_op; go_big_quiet_on
    refine Mixed.wpM_quiet rfl rfl rfl ?_; intro Kx hKx; go_big_quiet_op; go_big_quiet_on
    refine Mixed.wpM_make_full rfl rfl _ _ 38 rfl 46 i0 (.float .f64 0) 1 Try.underlying38 hi hz0 hz1 .i64 .i64 (n : Int) (n : Int) n rfl rfl rfl rfl (by rw [hz2]; omega) (by unfold maxLen; omega) ?_
    intro w1 hown hg1
    have hg1' : wz.grownBy w1 none := grown_trans (grown_drew (grown_refl _ _)) hg1
    refine ⟨⟨⟨w1, .none hg1'⟩, rfl⟩, ?_⟩
    go_simp
    refine Mixed.wpM_quiet rfl rfl rfl ?_; intro Kx hKx; go_big_quiet_op; go_big_quiet_on
    obtain ⟨rows, hr1, hr2, hr3⟩ := HP.out.row
    have hr1' := row_kept hg1' hr1 (by simp)
    have hkr : k < rows.length := by omega
    have hpc : w1.cell? ⟨pb, k, none⟩ = some (rows[k]'hkr) := by rw [cell_of hr1']; simp [hkr]
    have hpf := free_of hr1' k
    refine wpM_store rfl rfl (w1.setCell ⟨pb, k, none⟩ (.slice (some ⟨wz.heap.size, 0, none⟩) n n)) (by go_simp) ⟨⟨_, fr_set (X := fun b => b = pb) (p := ⟨pb, k, none⟩) (.none hg1') (.inl rfl) _⟩, rfl⟩ ?_
    refine Mixed.wpM_nil ?_
    intro nx hnx
    dsimp only [Act.put]
    clear nx hnx k1 hne hpc hpf
    have hnew : w1.heap[wz.heap.size]? = some (.cells ((List.replicate n 0).map (Value.float .f64)).toArray 46 (0, 0)) := by
      rw [show (madeCells (Value.float FloatKind.f64 0).cells (n * 1)).toList = List.replicate n (Value.float .f64 0) from by rw [Nat.mul_one]; exact madeCells_one _ _] at hown
      rw [List.map_replicate]
      exact new_of_made (w := wz.drew) hown
    obtain ⟨ob, hob⟩ : ∃ ob, wz.heap.size = ob := ⟨_, rfl⟩
    rw [hob] at hnew
    simp only [hob]
    obtain ⟨w2, hw2⟩ : ∃ w2, w1.setCell ⟨pb, k, none⟩ (.slice (some ⟨ob, 0, none⟩) n n) = w2 := ⟨_, rfl⟩
    have hplt : pb < ob := by rw [← hob]; exact lt_of hr1
    have HF2 : Hid (Fr (fun b => b = pb) wz w2) := by unfold Hid; rw [← hw2]; exact fr_set (X := fun b => b = pb) (p := ⟨pb, k, none⟩) (.none hg1') (.inl rfl) _
    have HRW2 : Hid (RowF w2 ob (List.replicate n 0)) := by
      unfold Hid RowF
      rw [← hw2, set_other (by show ob ≠ pb; omega)]
      exact hnew
    have HPB2 : Hid (w2.heap[pb]? = some (.cells (rows.toArray.setIfInBounds k (.slice (some ⟨ob, 0, none⟩) n n)) 38 (0, 0))) := by unfold Hid; rw [← hw2]; exact set_self hr1' _
    simp only [hw2]
    have HR1 := Lib.hid hr1
    have HOB := Lib.hid hob
    have HPK : Hid (p0[k]? = some (past0 n s)) := by unfold Hid; rw [← HP0.out, List.getElem?_map, hs]; rfl
    have hrl := hr2
    clear hr1 hr2 hr3 hr1' hnew hown hg1 hg1' hw2 hob
    have NEXT : Hid (∀ (w3 : World) (ys : List Nat), Fr (fun b => b = pb) wz w3 → w3.heap[pb]? = some (.cells (rows.toArray.setIfInBounds k (.slice (some ⟨ob, 0, none⟩) n n)) 38 (0, 0)) → RowF w3 ob ys → ys.length = n → ys.map cn = past0 n s → PastR w3 B pb n N (k + 1) (fun i => if i = k then ob else rb i) p0) := by
      intro w3 ys h1 h2 h3 h4 h5
      refine HP.out.next h1 (by rw [HOB.out]; exact Nat.le_refl _) (by rw [← HB.out]; exact HF.out.size) hkl2 (by rw [HOB.out]; exact hplt) (fun rows' hrow' => ?_) h3 h4 HPK.out h5 (fun i hi => ?_)
      · have e := HR1.out.symm.trans hrow'
        simp only [Option.some.injEq, Obj.cells.injEq, true_and, and_true] at e
        have e : rows = rows' := by simpa using e
        rw [← e]
        exact h2
      · have h6 := HP.out.base i hi
        have h7 := HL.out.pl
        rw [HB.out] at h7
        omega
    clear HR1 HPK HP
    obtain ⟨dl, hdl⟩ : ∃ dl, isDel s = dl := ⟨_, rfl⟩
    have HDL := Lib.hid hdl
    rw [hdl] at hlat
    cases dl with
    | false =>
      have HFIN := NEXT.out w2 (List.replicate n 0) HF2.out HPB2.out HRW2.out List.length_replicate (by
        rw [List.map_replicate, GFNew.cn_zero]
        cases s <;> first | rfl | cases HDL.out)
      have HFIN2 := Lib.hid HFIN
      have HFR := Lib.hid (HF.out.trans HF2.out)
      clear HFIN
      go_wp2_with fail
      refine ⟨?_, by simp [intOf]; omega⟩
      first
        | exact ⟨k + 1, _, by omega, rfl, HFIN2.out, HFR.out⟩
        | (repeat apply Exists.intro
           refine ⟨?_, rfl⟩
           exact ⟨k + 1, _, by omega, rfl, HFIN2.out, HFR.out⟩)
    | true =>
      obtain ⟨r, a, rfl⟩ : ∃ r a, s = .del r a := by
        cases s <;> first | exact ⟨_, _, rfl⟩ | cases HDL.out
      obtain ⟨db, rb2, ys, e, hdb, hrb, hne, hdr, hyr, hyl, har, hr4⟩ := delay_of (HNODE.out.fr HF2.out (fun b hb e => HL.out.ap k (by rw [← show b = pb from e]; exact hb)))
      simp only [Value.iface.injEq] at e
      obtain ⟨rfl, rfl⟩ := e
      have mt := tell98 ⟨db, 0, none⟩
      have hpb2 := HPB2.out
      have hkr2 : k < rows.length := by omega
      have e6 := HF2.out.cell d6 hgp
      have e7 : w2.cell? ⟨pb, k, none⟩ = some (.slice (some ⟨ob, 0, none⟩) n n) := by
        rw [cell_of hpb2, Array.getElem?_setIfInBounds_self_of_lt (by simpa using hkr2)]
      have hpo : pb ≠ ob := by omega
      have hgo : gb ≠ ob := by
        have h1 := HL.out.zl _ HG.out.z
        have h2 := HF.out.size
        have h3 := HOB.out
        dsimp only at h1
        unfold Hid at h3
        omega
      have hod : ob ≠ db := by
        have h1 := HL.out.al _ _ hdb
        have h2 := HF.out.size
        have h3 := HOB.out
        unfold Hid at h3
        omega
      have hor : ob ≠ rb2 := by
        have h1 := HL.out.al _ _ hrb
        have h2 := HF.out.size
        have h3 := HOB.out
        unfold Hid at h3
        omega
      have TC : Hid (∀ w', w2.grownBy w' none → Calls Try.prog 71 #[.pointer (some ⟨db, 0, none⟩), .slice (some ⟨ob, 0, none⟩) n n] w' fun e w3 => Made w' ob n (tellN (ys.map cn) a n) e w3) := fun w' hg => tell_calls db rb2 ys a ob n (List.replicate n 0) w' ⟨row_kept hg hdr.1 (by simp), row_kept hg hdr.2 (by simp)⟩ (by omega) (by omega) (by omega) hod hor hn (row_kept hg HRW2.out (by simp)) List.length_replicate
      have HYR := Lib.hid hyr
      clear hdr hyr hpb2 hkr2
      have hne2 := LaterX.nonempty (fun b => b = ob) w2
      have k1 : ∀ n2 : LaterX (fun b => b = ob) w2, n2.w.cell? ⟨gb, 6, none⟩ = some (.slice (some ⟨pb, 0, none⟩) N N) := LaterX.cell e6 hgo
      have k2 : ∀ n2 : LaterX (fun b => b = ob) w2, n2.w.cell? ⟨pb, k, none⟩ = some (.slice (some ⟨ob, 0, none⟩) n n) := LaterX.cell e7 hpo
      go_upto_region 6 with fail
      refine Mixed.wp_region_mixed (lateX (fun b => b = ob) w2) (fun k => k == 8 || k == 11) (by kernel_rfl) (by kernel_rfl) ⟨⟨w2.drew, fr_drewN (Fr.refl _ _) 1⟩, rfl⟩ ?_
      unfold lateX
      refine Mixed.wpM_quiet rfl rfl rfl ?_; intro Kx hKx; go_big_quiet_op; go_big_quiet_on
      refine Mixed.wpM_quiet rfl rfl rfl ?_; intro Kx hKx; go_big_quiet_op; go_big_quiet_on
      refine wpM_nc rfl rfl _ ⟨gb, 0, none⟩ rfl rfl ?_; go_simp
      refine Mixed.wpM_quiet rfl rfl rfl ?_; intro Kx hKx; go_big_quiet_op; go_big_quiet_on
      refine Mixed.wpM_quiet rfl rfl rfl ?_; intro Kx hKx; go_big_quiet_op; go_big_quiet_on
      refine Mixed.wpM_quiet rfl rfl rfl ?_; intro Kx hKx; go_big_quiet_op; go_big_quiet_on
      refine Mixed.wpM_quiet rfl rfl rfl ?_; intro Kx hKx; go_big_quiet_op; go_big_quiet_on
      refine Mixed.wpM_quiet rfl rfl rfl ?_; intro Kx hKx; go_big_quiet_op; go_big_quiet_on
      refine Mixed.wpM_make rfl rfl (.func (.method "cantus/graph.tell") #[.iface 98 (.pointer (some ⟨db, 0, none⟩))] #[]) w2.drew (by go_simp) ⟨⟨w2.drew, fr_drewN (Fr.refl _ _) 1⟩, rfl⟩ ?_
      go_simp
      refine wpM_ncf rfl rfl _ "cantus/graph.tell" ⟨db, 0, none⟩ (ahead_tell _) rfl rfl ?_
      go_simp
      refine Mixed.wpM_quiet rfl rfl rfl ?_; intro Kx hKx; go_big_quiet_op; go_big_quiet_on
      refine Mixed.wpM_call rfl rfl 71 #[.pointer (some ⟨db, 0, none⟩), .slice (some ⟨ob, 0, none⟩) n n] (by go_simp) ?_
      refine (TC.out _ (grown_drew (grown_refl _ _))).mono ?_
      rintro ez w3 ⟨rfl, hm, hf⟩
      refine ⟨_, rfl, ⟨⟨w3, (fr_drewN (Fr.refl _ _) 1).trans hf.out⟩, rfl⟩, ?_⟩
      refine Mixed.wpM_nil ?_
      intro nx hnx
      dsimp only [Act.put]
      clear nx hnx k1 k2 hne2
      obtain ⟨ys3, hr3, hl3, hc3⟩ := hm.out
      have HF3 : Hid (Fr (fun b => b = pb) wz w3) := by
        refine fr_trans2 HF2.out (fr_trans2 (X := fun b => b = ob) (fr_drewN (Fr.refl _ _) 1) hf.out (fun i e => .inl e)) (fun i e => .inr ?_)
        rw [show i = ob from e, HOB.out]
        exact Nat.le_refl _
      have HFIN := Lib.hid (NEXT.out w3 ys3 HF3.out (hf.out.row (HPB2.out : w2.drew.heap[pb]? = _) hpo) hr3 hl3 (by rw [hc3, HYR.out]; rfl))
      have HFR := Lib.hid (HF.out.trans HF3.out)
      go_wp2_with fail
      refine ⟨?_, by simp [intOf]; omega⟩
      first
        | exact ⟨k + 1, _, by omega, rfl, HFIN.out, HFR.out⟩
        | (repeat apply Exists.intro
           refine ⟨?_, rfl⟩
           exact ⟨k + 1, _, by omega, rfl, HFIN.out, HFR.out⟩)
end Go.Proofs.Ytdliilmnfbgplaa.GPiece

/- Are all rows that come in of n samples: the walks. -/
namespace Go.Proofs.Ytdliilmnfbgplaa.GRunF
open Go Go.RowKit Go.Proofs.Ytdliilmnfbgplaa.Fl Go.Proofs.Ytdliilmnfbgplaa.Fw Go.Proofs.Ytdliilmnfbgplaa.GRd Go.Proofs.Ytdliilmnfbgplaa.GCells Go.Proofs.Ytdliilmnfbgplaa.GStep Go.Proofs.Ytdliilmnfbgplaa.GMod Go.Proofs.Ytdliilmnfbgplaa.GMem Go.Proofs.Ytdliilmnfbgplaa.Hp Go.Proofs.Ytdliilmnfbgplaa.Rd Go.Proofs.Ytdliilmnfbgplaa.Opn
set_option linter.unusedVariables false
set_option linter.unusedSimpArgs false

set_option maxHeartbeats 1000000 in
set_option maxRecDepth 100000 in
theorem ask_calls (nb : Nat) (n : Int) (ro : Option Addr) (m rc : Nat) (w : World) (hn : w.cell? ⟨nb, 0, none⟩ = some (.int .i64 n)) :
    Calls Try.prog 25 #[.slice ro m rc, .pointer (some ⟨nb, 0, none⟩)] w fun e w' => e = .returned (.bool (decide ((m : Int) ≠ n))) ∧ Hid (w.grownBy w' none) := by
  by_cases h : (m : Int) = n
  · have e : decide ((m : Int) ≠ n) = false := by simp [h]
    rw [e]
    subst h
    go_enter Try.func25, Try.ntmps25
    go_wp2_with fail
    go_ret
    exact ⟨rfl, grown_refl _ _⟩
  · have e : decide ((m : Int) ≠ n) = true := by simp [h]
    rw [e]
    have hb : ((m : Int) == n) = false := by simp [h]
    go_enter Try.func25, Try.ntmps25
    go_wp2_with fail
    go_ret
    exact ⟨by simp [h], grown_refl _ _⟩

def badAny (n : Int) (ls : List (List Nat)) : Bool := ls.any fun l => decide ((l.length : Int) ≠ n)
def IdxPost (n : Int) (ls : List (List Nat)) (w : World) (e : Ending) (w' : World) : Prop := ∃ r : Int, e = .returned (.int .i64 r) ∧ (badAny n ls = decide (0 ≤ r)) ∧ w.grownBy w' none

set_option maxHeartbeats 2000000 in
set_option maxRecDepth 100000 in
theorem idx_calls (A : Nat → Prop) (ao : Option Addr) (c nb : Nat) (n : Int) (ls : List (List Nat)) (w : World) (hv : CLl w A (.slice ao ls.length c) ls) (hm : ls.length ≤ 1099511627776) (hn : w.cell? ⟨nb, 0, none⟩ = some (.int .i64 n)) :
    Calls Try.prog 37 #[.slice ao ls.length c, .func (.func 25) #[] #[.pointer (some ⟨nb, 0, none⟩)]] w (IdxPost n ls w) := by
  obtain ⟨N, hN⟩ : ∃ N, ls.length = N := ⟨_, rfl⟩
  have HN := Lib.hid hN
  rw [hN] at hv hm ⊢
  have HV := Lib.hid hv
  have HC := Lib.hid hn
  clear hv hN hn
  go_enter Try.func37, Try.ntmps37
  go_wp2_with fail
  go_loopw [5, 8] (fun v5 v8 wr => ∃ k : Nat, k ≤ N ∧ v8 = .int .i64 (k : Int) ∧ Hid (badAny n ls = badAny n (ls.drop k)) ∧ Hid (w.grownBy wr none)) (fun _ v8 _ => N - (intOf v8).toNat)
  case atStart => exact ⟨0, Nat.zero_le _, rfl, rfl, grown_refl _ _⟩
  case round =>
    obtain ⟨k, hk, rfl, HS, HG⟩ := hrel
    by_cases hke : k = N
    · have HX : Hid (badAny n ls = false) := by
        unfold Hid
        rw [HS.out, List.drop_of_length_le (by rw [HN.out, hke]; exact Nat.le_refl _)]
        rfl
      subst hke
      go_wp2_with fail
      go_ret
      exact ⟨-1, rfl, by rw [HX.out]; rfl, HG.out⟩
    have hkl : k < N := by omega
    have hkl2 : (k : Int) < (N : Int) := by omega
    obtain ⟨l, hl⟩ : ∃ l, ls[k]? = some l := ⟨ls[k]'(by rw [HN.out]; exact hkl), List.getElem?_eq_getElem _⟩
    obtain ⟨b, o, ro, rc, rfl, _, hc, _⟩ := cll_at HV.out hl
    have c0 := grown_cell HG.out hc (by simp)
    have AC := Lib.hid (ask_calls nb n ro l.length rc wr (grown_cell HG.out HC.out (by simp)))
    have HST : Hid (badAny n ls = (decide ((l.length : Int) ≠ n) || badAny n (ls.drop (k + 1)))) := by
      unfold Hid
      obtain ⟨hh, he⟩ := List.getElem?_eq_some_iff.1 hl
      rw [HS.out, List.drop_eq_getElem_cons hh, he]
      rfl
    obtain ⟨m, hm2⟩ : ∃ m, l.length = m := ⟨_, rfl⟩
    obtain ⟨B, hB⟩ : ∃ B, decide ((m : Int) ≠ n) = B := ⟨_, rfl⟩
    rw [hm2, hB] at HST AC
    rw [hm2] at c0
    clear hB hc hl hm2
    cases B
    · go_wp2_with (go_at_call 25; refine (AC.out).mono ?_; rintro e w9 ⟨rfl, hg9⟩)
      refine ⟨?_, by simp [intOf]; omega⟩
      first
        | exact ⟨k + 1, by omega, rfl, by unfold Hid; rw [HST.out, Bool.false_or], grown_trans HG.out hg9.out⟩
        | (repeat apply Exists.intro
           refine ⟨?_, rfl⟩
           exact ⟨k + 1, by omega, rfl, by unfold Hid; rw [HST.out, Bool.false_or], grown_trans HG.out hg9.out⟩)
    · go_wp2_with (go_at_call 25; refine (AC.out).mono ?_; rintro e w9 ⟨rfl, hg9⟩)
      go_ret
      exact ⟨k, rfl, by rw [HST.out, Bool.true_or, decide_eq_true (by omega)], grown_trans HG.out hg9.out⟩

set_option maxHeartbeats 1000000 in
theorem has_calls (A : Nat → Prop) (ao : Option Addr) (c nb : Nat) (n : Int) (ls : List (List Nat)) (w : World) (hv : CLl w A (.slice ao ls.length c) ls) (hm : ls.length ≤ 1099511627776) (hn : w.cell? ⟨nb, 0, none⟩ = some (.int .i64 n)) :
    Calls Try.prog 24 #[.slice ao ls.length c, .func (.func 25) #[] #[.pointer (some ⟨nb, 0, none⟩)]] w fun e w' => e = .returned (.bool (badAny n ls)) ∧ Hid (w.grownBy w' none) := by
  have IC := Lib.hid (idx_calls A ao c nb n ls w hv hm hn)
  obtain ⟨N, hN⟩ : ∃ N, ls.length = N := ⟨_, rfl⟩
  rw [hN] at IC ⊢
  obtain ⟨B, hB⟩ : ∃ B, badAny n ls = B := ⟨_, rfl⟩
  have HB := Lib.hid hB
  rw [hB]
  clear hv hm hN hB hn
  go_enter Try.func24, Try.ntmps24
  go_wp2_with (go_at_call 37; refine (IC.out).mono ?_; rintro e w1 ⟨r, rfl, hr, hg⟩; have HRR := Lib.hid hr; have HGG := Lib.hid hg; clear hr hg)
  go_ret
  exact ⟨by rw [← HB.out, HRR.out]; rfl, HGG.out⟩
end Go.Proofs.Ytdliilmnfbgplaa.GRunF

/- What a run keeps from piece to piece; the rows that go out. -/
namespace Go.Proofs.Ytdliilmnfbgplaa.GOuts
open Go Go.RowKit Go.Proofs.Ytdliilmnfbgplaa.Fl Go.Proofs.Ytdliilmnfbgplaa.Fw Go.Proofs.Ytdliilmnfbgplaa.GRd Go.Proofs.Ytdliilmnfbgplaa.GCells Go.Proofs.Ytdliilmnfbgplaa.GStep Go.Proofs.Ytdliilmnfbgplaa.GMod Go.Proofs.Ytdliilmnfbgplaa.GMem Go.Proofs.Ytdliilmnfbgplaa.GNode Go.Proofs.Ytdliilmnfbgplaa.GNode2 Go.Proofs.Ytdliilmnfbgplaa.GNode3 Go.Proofs.Ytdliilmnfbgplaa.GNode4 Go.Proofs.Ytdliilmnfbgplaa.GPMem Go.Proofs.Ytdliilmnfbgplaa.GPState Go.Proofs.Ytdliilmnfbgplaa.GPiece Go.Proofs.Ytdliilmnfbgplaa.Hp Go.Proofs.Ytdliilmnfbgplaa.Rd Go.Proofs.Ytdliilmnfbgplaa.Opn
set_option linter.unusedVariables false
set_option linter.unusedSimpArgs false

/-! ### plain: states stay fit -/
theorem gok_play {g : Gd} {order : List Nat} (ls : List (List Nat)) (n : Nat) : ∀ (l : List Nat) (past : List (List Nat)) (sts : List NS), GOk g order sts → GOk g order (playN g ls n l (past, sts)).2
  | [], past, sts, h => h
  | i :: l, past, sts, h => by
    cases hx : g.nodes[i]? with
    | none =>
      have e : playN g ls n (i :: l) (past, sts) = playN g ls n l (past, sts) := by simp [playN, hx]
      rw [e]
      exact gok_play ls n l past sts h
    | some x =>
      cases hs : sts[i]? with
      | none =>
        have e : playN g ls n (i :: l) (past, sts) = playN g ls n l (past, sts) := by simp [playN, hx, hs]
        rw [e]
        exact gok_play ls n l past sts h
      | some s =>
        have e : playN g ls n (i :: l) (past, sts) = playN g ls n l (past.set i (GMod.runN s (heardN ls past x s) n).1, sts.set i (GMod.runN s (heardN ls past x s) n).2) := by simp [playN, hx, hs]
        rw [e]
        refine gok_play ls n l _ _ (h.set fun x' hx' => ?_)
        rw [hx] at hx'
        injection hx' with hx'
        subst hx'
        exact fits_run (h.fits i x s hx hs) _ _
theorem fits_end {g : Gd} {x : Nd} {s : NS} (h : Fits g x s) (past : List (List Nat)) : Fits g x (endN past x s) := by
  cases s <;> first | exact h | (obtain ⟨h1, h2, h3, h4⟩ := h; exact ⟨(fun _ => h1 rfl), (fun e => by cases e), (fun k e => by cases e), (fun _ => h4 (fun k e => by cases e))⟩)
theorem gok_piece {g : Gd} {order : List Nat} {sts : List NS} (h : GOk g order sts) (ls : List (List Nat)) (n : Nat) : GOk g order (pieceN g order sts ls n).2 := by
  have h1 := gok_play ls n order (sts.map (past0 n)) sts h
  refine ⟨h1.small, ?_, fun i x s hx hs => ?_, h1.refs, h1.ord, h1.ordl, h1.nodup, h1.self, h1.outs, h1.ins⟩
  · unfold pieceN
    simp only [List.length_zipWith]
    rw [h1.len, Nat.min_self]
  · unfold pieceN at hs
    simp only [List.getElem?_zipWith, hx] at hs
    cases hq : (playN g ls n order (sts.map (past0 n), sts)).2[i]? with
    | none => rw [hq] at hs; cases hs
    | some s' =>
      rw [hq] at hs
      simp at hs
      subst hs
      exact fits_end (h1.fits i x s' hx hq) _
theorem Lay.mono {w w' : World} {Z : Nat → Prop} {A : Nat → Nat → Prop} {pb : Nat} (h : Lay w Z A pb) (hs : w.heap.size ≤ w'.heap.size) : Lay w' Z A pb :=
  ⟨h.zp, h.za, h.ap, h.aa, fun b hb => Nat.lt_of_lt_of_le (h.zl b hb) hs, fun i b hb => Nat.lt_of_lt_of_le (h.al i b hb) hs, Nat.lt_of_lt_of_le h.pl hs⟩

/-- The rows that go out: each in a block of its own. -/
structure OutsR (w : World) (B ub : Nat) (vs : List Value) (outs : List (List Nat)) : Prop where
  cell : w.heap[ub]? = some (.cells vs.toArray 38 (0, 0))
  base : B ≤ ub
  len : vs.length = outs.length
  val : ∀ (i : Nat) (v : Value) (l : List Nat), vs[i]? = some v → outs[i]? = some l → ∃ ys : List Nat, w.ownsRow B 46 1 v ys.length (flC fC ys) ∧ ys.map cn = l
  own : ∀ (i : Nat) (v : Value), vs[i]? = some v → v.ownBlock ≠ some ub
  inj : ∀ (i j : Nat) (v u : Value) (b : Nat), vs[i]? = some v → vs[j]? = some u → v.ownBlock = some b → u.ownBlock = some b → i = j
theorem OutsR.fr {w w' : World} {X : Nat → Prop} {B ub : Nat} {vs : List Value} {outs : List (List Nat)} (h : OutsR w B ub vs outs) (hf : Fr X w w') (hX : ∀ b, B ≤ b → ¬ X b) : OutsR w' B ub vs outs :=
  ⟨hf.row h.cell (hX ub h.base), h.base, h.len, fun i v l hv hl => by
    obtain ⟨ys, h1, h2⟩ := h.val i v l hv hl
    exact ⟨ys, own_fr h1 hf (fun b hb => hX b (own_base h1 hb).1), h2⟩, h.own, h.inj⟩
theorem OutsR.grown {w w' : World} {B ub : Nat} {vs : List Value} {outs : List (List Nat)} (h : OutsR w B ub vs outs) (hg : w.grownBy w' none) : OutsR w' B ub vs outs := h.fr (X := fun _ => False) (.none hg) (fun _ _ => id)
/-- One of them has grown. -/
theorem OutsR.next {w w' : World} {B ub : Nat} {vs : List Value} {outs : List (List Nat)} {i : Nat} {v v' : Value} {l : List Nat} (h : OutsR w B ub vs outs) (hv : vs[i]? = some v) (hl : outs[i]? = some l) (hf : Fr (fun b => b = ub ∨ v.ownBlock = some b) w w')
    (hc : w'.heap[ub]? = some (.cells (vs.toArray.setIfInBounds i v') 38 (0, 0))) {zs xs : List Nat} (ho : w'.ownsRow B 46 1 v' zs.length (flC fC zs)) (hz : zs.map cn = l ++ xs) (hb : v'.ownBlock = v.ownBlock ∨ (∀ b, v'.ownBlock = some b → w.heap.size ≤ b)) : OutsR w' B ub (vs.set i v') (outs.set i (l ++ xs)) := by
  have hi := (List.getElem?_eq_some_iff.1 hv).1
  have hi2 := (List.getElem?_eq_some_iff.1 hl).1
  have hlt : ∀ (j : Nat) (u : Value) (b : Nat), vs[j]? = some u → u.ownBlock = some b → b < w.heap.size := fun j u b hu hb => by
    obtain ⟨l', hl'⟩ : ∃ l', outs[j]? = some l' := ⟨outs[j]'(by rw [← h.len]; exact (List.getElem?_eq_some_iff.1 hu).1), List.getElem?_eq_getElem _⟩
    obtain ⟨ys, h1, _⟩ := h.val j u l' hu hl'
    exact (own_base h1 hb).2
  have hne : ∀ (j : Nat) (u : Value) (b : Nat), j ≠ i → vs[j]? = some u → u.ownBlock = some b → v'.ownBlock ≠ some b := fun j u b hj hu hbu hbv => by
    rcases hb with e | e
    · rw [e] at hbv
      exact hj (h.inj j i u v b hu hv hbu hbv)
    · have h1 := e b hbv
      have h2 := hlt j u b hu hbu
      omega
  refine ⟨by rw [hc, List.setIfInBounds_toArray], h.base, by simp [h.len], fun j u k hu hk => ?_, fun j u hu => ?_, fun j k u u2 b hu hu2 hbu hbu2 => ?_⟩
  · by_cases e : i = j
    · subst e
      rw [List.getElem?_set_self hi] at hu
      rw [List.getElem?_set_self hi2] at hk
      injection hu with hu
      injection hk with hk
      subst hu hk
      exact ⟨zs, ho, hz⟩
    · rw [List.getElem?_set_ne e] at hu hk
      obtain ⟨ys, h1, h2⟩ := h.val j u k hu hk
      refine ⟨ys, own_fr h1 hf (fun b hb' hx => ?_), h2⟩
      rcases hx with hx | hx
      · exact h.own j u hu (by rw [hb', hx])
      · exact e (h.inj i j v u b hv hu hx hb')
  · by_cases e : i = j
    · subst e
      rw [List.getElem?_set_self hi] at hu
      injection hu with hu
      subst hu
      rcases hb with e | e
      · rw [e]; exact h.own i v hv
      · intro e2
        have h1 := e _ e2
        have h2 := lt_of h.cell
        omega
    · rw [List.getElem?_set_ne e] at hu
      exact h.own j u hu
  · by_cases e : i = j
    · subst e
      rw [List.getElem?_set_self hi] at hu
      injection hu with hu
      subst hu
      by_cases e2 : i = k
      · exact e2
      · rw [List.getElem?_set_ne e2] at hu2
        exact absurd hbu (hne k u2 b (fun e => e2 e.symm) hu2 hbu2)
    · rw [List.getElem?_set_ne e] at hu
      by_cases e2 : i = k
      · subst e2
        rw [List.getElem?_set_self hi] at hu2
        injection hu2 with hu2
        subst hu2
        exact absurd hbu2 (hne j u b (fun e2 => e e2.symm) hu hbu)
      · rw [List.getElem?_set_ne e2] at hu2
        exact h.inj j k u u2 b hu hu2 hbu hbu2
end Go.Proofs.Ytdliilmnfbgplaa.GOuts

/- Rows that come in, and parts of them. -/
namespace Go.Proofs.Ytdliilmnfbgplaa.GSub
open Go Go.RowKit Go.Proofs.Ytdliilmnfbgplaa.Fl Go.Proofs.Ytdliilmnfbgplaa.Fw Go.Proofs.Ytdliilmnfbgplaa.GRd Go.Proofs.Ytdliilmnfbgplaa.GCells Go.Proofs.Ytdliilmnfbgplaa.GStep Go.Proofs.Ytdliilmnfbgplaa.GMod Go.Proofs.Ytdliilmnfbgplaa.GMem Go.Proofs.Ytdliilmnfbgplaa.Hp Go.Proofs.Ytdliilmnfbgplaa.Rd Go.Proofs.Ytdliilmnfbgplaa.Opn
set_option linter.unusedVariables false
set_option linter.unusedSimpArgs false

/-- Rows, each as long as its capacity at most. -/
def InsR (w : World) (A : Nat → Prop) (v : Value) (ls : List (List Nat)) : Prop :=
  ∃ vs : List Value, vs.length = ls.length ∧ SlA 1 vC w A v vs ∧ ∀ (i : Nat) (u : Value) (l : List Nat), vs[i]? = some u → ls[i]? = some l → CFl w A u l ∧ ∃ ao c, u = .slice ao l.length c ∧ l.length ≤ c
theorem InsR.cll {w : World} {A : Nat → Prop} {v : Value} {ls : List (List Nat)} (h : InsR w A v ls) : CLl w A v ls := by
  obtain ⟨vs, h1, h2, h3⟩ := h
  exact ⟨vs, h1, h2, fun i u l hu hl => (h3 i u l hu hl).1⟩
theorem InsR.fr {w w' : World} {A X : Nat → Prop} {v : Value} {ls : List (List Nat)} (h : InsR w A v ls) (hf : Fr X w w') (hA : ∀ b, A b → ¬ X b) : InsR w' A v ls := by
  obtain ⟨vs, h1, h2, h3⟩ := h
  exact ⟨vs, h1, h2.fr hf hA, fun i u l hu hl => ⟨(h3 i u l hu hl).1.fr hf hA, (h3 i u l hu hl).2⟩⟩
theorem InsR.mono {w : World} {A A' : Nat → Prop} {v : Value} {ls : List (List Nat)} (h : InsR w A v ls) (hA : ∀ b, A b → A' b) : InsR w A' v ls := by
  obtain ⟨vs, h1, h2, h3⟩ := h
  exact ⟨vs, h1, h2.mono hA, fun i u l hu hl => ⟨(h3 i u l hu hl).1.mono hA, (h3 i u l hu hl).2⟩⟩
theorem ins_at {w : World} {A : Nat → Prop} {ao : Option Addr} {n c : Nat} {ls : List (List Nat)} (h : InsR w A (.slice ao n c) ls) {i : Nat} {l : List Nat} (hl : ls[i]? = some l) :
    ∃ b off ro rc, ao = some ⟨b, off, none⟩ ∧ A b ∧ w.cell? ⟨b, off + i, none⟩ = some (.slice ro l.length rc) ∧ l.length ≤ rc ∧ CFl w A (.slice ro l.length rc) l := by
  obtain ⟨vs, h1, h2, h3⟩ := h
  have hi := (List.getElem?_eq_some_iff.1 hl).1
  obtain ⟨u, hu⟩ : ∃ u, vs[i]? = some u := ⟨vs[i]'(by omega), List.getElem?_eq_getElem _⟩
  obtain ⟨b, off, rfl, hA, hr⟩ := sla_at h2 hu
  obtain ⟨hc, ro, rc, rfl, hrc⟩ := h3 i u l hu hl
  refine ⟨b, off, ro, rc, rfl, hA, ?_, hrc, hc⟩
  have := hr 0 _ rfl
  rw [Nat.mul_one] at this
  exact this

theorem elem38 : Try.prog.underlying 38 = some (.slice (Try.prog.elem 38)) := by kernel_rfl
theorem size_elem38 (w : World) : (sizeOf (Try.prog.elem 38)).run Try.prog w = .ok 1 w := by kernel_rfl

/-- 'row[a:a+m]'. -/
theorem slice_mid {w : World} {A : Nat → Prop} {ro : Option Addr} {rc : Nat} {l : List Nat} (h : CFl w A (.slice ro l.length rc) l) (hrc : l.length ≤ rc) (a m : Nat) (hm : a + m ≤ l.length) :
    ∃ ao2, (∀ w, (Instr.sliceAt 38 (.slice ro l.length rc) (some (.int .i64 (a : Int))) (some (.int .i64 ((a + m : Nat) : Int))) none).run Try.prog w = .ok (.slice ao2 m (rc - a)) w) ∧ CFl w A (.slice ao2 m (rc - a)) ((l.drop a).take m) := by
  refine ⟨if rc = a then ro else ro.map (·.add (a * 1)), fun w => ?_, ?_⟩
  · rw [run_sliceAt_slice _ _ _ _ _ _ elem38, run_slice_lh _ _ _ _ _ elem38 _ _ _ _ (by omega) (by omega) (by omega), size_elem38]
    simp [Result.andThen, sliced]
    omega
  · obtain ⟨ys, h1, rfl⟩ := h
    rw [List.length_map] at hm hrc
    refine ⟨(ys.drop a).take m, ?_, by rw [List.map_take, List.map_drop]⟩
    have hl : ((ys.drop a).take m).length = m := by rw [List.length_take, List.length_drop]; omega
    rcases h1 with ⟨b, off, cap, hA, e, hr⟩ | ⟨ao, cap, e, rfl⟩
    · simp only [Value.slice.injEq] at e
      obtain ⟨rfl, _, rfl⟩ := e
      by_cases e2 : rc = a
      · have hm0 : m = 0 := by omega
        subst hm0
        exact .inr ⟨_, _, rfl, by simp⟩
      · rw [if_neg e2]
        refine .inl ⟨b, off + a, rc - a, hA, by rw [hl, Nat.mul_one]; simp only [Option.map_some, Addr.add_lit], fun i x hx => ?_⟩
        rw [List.getElem?_take] at hx
        split at hx
        · rw [List.getElem?_drop] at hx
          have := hr (a + i) x hx
          rw [Nat.mul_one] at this ⊢
          rw [Nat.add_assoc]
          exact this
        · cases hx
    · simp at hm
      obtain rfl : m = 0 := by omega
      exact .inr ⟨_, _, rfl, by simp⟩
end Go.Proofs.Ytdliilmnfbgplaa.GSub
