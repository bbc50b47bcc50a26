/- A voice: piece by piece. -/
import Derived.Test.YtadaegnkclleaaaVRender
import Derived.Test.YtadaegnkclleaaaApp
namespace Go.Proofs.Ytadaegnkclleaaa.VSing
open Go Ieee Go.RowKit Go.Proofs.Ytadaegnkclleaaa.VMod Go.Proofs.Ytadaegnkclleaaa.VWalk Go.Proofs.Ytadaegnkclleaaa.VLevel Go.Proofs.Ytadaegnkclleaaa.VRender Go.Proofs.Ytadaegnkclleaaa.Hp Go.Proofs.Ytadaegnkclleaaa.Rd
set_option linter.unusedVariables false

theorem info40 : (Try.prog.info? 40).map (fun i => (i.zero, i.size, i.bytes)) = some (some (.slice none 0 0), 1, 24) := by kernel_rfl
theorem info26 : (Try.prog.info? 26).map (fun i => (i.zero, i.size, i.bytes)) = some (some (.int .i64 0), 1, 8) := by kernel_rfl

set_option maxHeartbeats 400000 in
theorem render_bad (a : Value) (n : Int) (w : World) (h : n < 0 ∨ 65536 < n) : Calls Try.prog 24 #[a, .int .i64 n] w fun e w' => e = .returned (.tuple #[.slice none 0 0, .int .i64 3]) ∧ w = w' := by
  by_cases h1 : n < 0
  · clear h
    go_enter Try.func24, Try.ntmps24
    go_wp2_with fail
    go_ret2
    exact ⟨rfl, rfl⟩
  · have h2 : 65536 < n := by omega
    clear h
    go_enter Try.func24, Try.ntmps24
    go_wp2_with fail
    go_ret2
    exact ⟨rfl, rfl⟩

/-- How many samples a piece asks for; its samples; its answer; where the voice stands behind it. -/
def askN (n : Int) : Int := if n < 0 then (if n = -9223372036854775808 then n else -n) else n
def goodN (n : Int) : Bool := decide (0 ≤ askN n) && decide (askN n ≤ 65536)
def fromS (p : Pt) (s : St) (n : Int) : St := if n < 0 then offS p s else s
def outP (p : Pt) (s : St) (n : Int) : List Nat := if goodN n then (play p (askN n).toNat (fromS p s n)).1 else []
def errP (n : Int) : Int := if goodN n then 0 else 3
def nextP (p : Pt) (s : St) (n : Int) : St := if goodN n then after p (askN n).toNat (fromS p s n) else fromS p s n
def outsP (p : Pt) : St → List Int → List (List Nat)
  | _, [] => []
  | s, n :: r => outP p s n :: outsP p (nextP p s n) r

theorem outsP_step {p : Pt} {s : St} {ns : List Int} {k : Nat} {n : Int} (hk : ns[k]? = some n) {ys acc : List (List Nat)} (h : ys = acc ++ outsP p s (ns.drop k)) : ys = (acc ++ [outP p s n]) ++ outsP p (nextP p s n) (ns.drop (k + 1)) := by
  obtain ⟨hlt, he⟩ := List.getElem?_eq_some_iff.1 hk
  rw [List.drop_eq_getElem_cons hlt, he] at h
  rw [h, List.append_assoc]
  rfl

theorem errs_step {ns : List Int} {k : Nat} {n : Int} (hk : ns[k]? = some n) {ys acc : List Int} (h : ys = acc ++ (ns.drop k).map errP) : ys = (acc ++ [errP n]) ++ (ns.drop (k + 1)).map errP := by
  obtain ⟨hlt, he⟩ := List.getElem?_eq_some_iff.1 hk
  rw [List.drop_eq_getElem_cons hlt, he] at h
  rw [h, List.append_assoc]
  rfl

theorem nextP_ok {p : Pt} {s : St} (hp : OkP p) (hs : OkS s) (n : Int) : OkS (nextP p s n) := by
  have hf : OkS (fromS p s n) := by
    unfold fromS
    split
    · exact off_ok hp hs
    · exact hs
  unfold nextP
  split
  · exact after_ok hf _
  · exact hf

/-- A piece that came out. -/
def PieceR (w : World) (u : Value) (ys : List Nat) : Prop := Own 23 w u (ys.map (Value.float .f64)) ∨ (u = .slice none 0 0 ∧ ys = [])

theorem PieceR.gr {B : Nat} {S : List TypeId} {w w' : World} {u : Value} {ys : List Nat} (h : PieceR w u ys) (hg : Gr B S w w') (ht : 23 ∉ S) : PieceR w' u ys := h.imp (fun h => h.gr hg ht) id

theorem PieceR.fls {w : World} {u : Value} {ys : List Nat} (h : PieceR w u ys) : Fls w u ys := by
  rcases h with h | ⟨rfl, rfl⟩
  · exact h.fls
  · exact .inr ⟨none, 0, rfl, rfl⟩

/-- What has been done when k pieces are done. -/
structure SRel (w0 : World) (g : Nat) (p : Pt) (ns : List Int) (ys : List (List Nat)) (es : List Int) (k : Nat) (vo ve : Value) (wr : World) (s : St) : Prop where
  data : ∃ (vs : List Value) (yss : List (List Nat)) (ess : List Int), wr.ownsRow w0.heap.size 40 1 vo k vs ∧ vs.length = k ∧ yss.length = k ∧ ess.length = k ∧ (∀ (i : Nat) (u : Value) (zs : List Nat), vs[i]? = some u → yss[i]? = some zs → PieceR wr u zs) ∧
    wr.ownsRow w0.heap.size 26 1 ve k (ess.map fun e => Value.int .i64 e) ∧ ys = yss ++ outsP p s (ns.drop k) ∧ es = ess ++ (ns.drop k).map errP
  voice : VAt wr g p s
  ok : OkS s
  frame : Gr w0.heap.size [60, 40, 26] w0 wr

theorem srel_start {w w1 : World} {g : Nat} {p : Pt} {ns : List Int} (hv : VAt w1 g p st0) (hg : w.grownBy w1 none) : SRel w g p ns (outsP p st0 ns) (ns.map errP) 0 (.slice none 0 0) (.slice none 0 0) w1 st0 :=
  ⟨⟨[], [], [], World.ownsRow_nil _ _ _ _, rfl, rfl, rfl, fun i u ys h => by simp at h, World.ownsRow_nil _ _ _ _, rfl, rfl⟩, hv, st0_ok, .of_none hg⟩

theorem srel_next {w0 wr w2 w3 w5 : World} {g k : Nat} {p : Pt} {ns : List Int} {ys : List (List Nat)} {es : List Int} {vo' ve' u : Value} {s : St} {n : Int} {vs : List Value} {yss : List (List Nat)} {ess : List Int}
    (hp : OkP p) (e1 : vs.length = k) (e2 : yss.length = k) (e3 : ess.length = k) (e4 : ∀ (i : Nat) (u : Value) (zs : List Nat), vs[i]? = some u → yss[i]? = some zs → PieceR wr u zs) (e5 : ys = yss ++ outsP p s (ns.drop k)) (e6 : es = ess ++ (ns.drop k).map errP)
    (hok : OkS s) (hf : Gr w0.heap.size [60, 40, 26] w0 wr) (hn : ns[k]? = some n) (hg2 : Gr w0.heap.size [60] wr w2) (hu : PieceR w2 u (outP p s n)) (hv2 : VAt w2 g p (nextP p s n))
    (h3 : w3.ownsRow w0.heap.size 40 1 vo' (k + 1) (vs ++ [u])) (hg3 : Gr w0.heap.size [40] w2 w3) (h5 : w5.ownsRow w0.heap.size 26 1 ve' (k + 1) ((ess ++ [errP n]).map fun e => Value.int .i64 e)) (hg5 : Gr w0.heap.size [26] w3 w5) :
    SRel w0 g p ns ys es (k + 1) vo' ve' w5 (nextP p s n) := by
  have ga : Gr w0.heap.size [60, 40, 26] wr w5 := (hg2.more (by simp)).trans ((hg3.more (by simp)).trans (hg5.more (by simp)))
  have gb : Gr w0.heap.size [40, 26] w2 w5 := (hg3.more (by simp)).trans (hg5.more (by simp))
  refine ⟨⟨vs ++ [u], yss ++ [outP p s n], ess ++ [errP n], owns_gr h3 hg5 (by simp), by simp [e1], by simp [e2], by simp [e3], ?_, h5, outsP_step hn e5, errs_step hn e6⟩, gb.keep hv2 (by simp), nextP_ok hp hok n, hf.trans ga⟩
  intro i v zs hv hz
  by_cases hi : i < k
  · rw [List.getElem?_append_left (by omega)] at hv hz
    exact (e4 i v zs hv hz).gr ga (by simp)
  · have hik : i = k := by
      have := (List.getElem?_eq_some_iff.1 hv).1
      simp at this
      omega
    subst hik
    rw [List.getElem?_append_right (by omega), e1, Nat.sub_self] at hv
    rw [List.getElem?_append_right (by omega), e2, Nat.sub_self] at hz
    simp at hv hz
    subst hv hz
    exact hu.gr gb (by simp)

def SingPost (p : Pt) (ns : List Int) (w : World) (e : Ending) (w' : World) : Prop := Hid (w.grownBy w' none) ∧
  ((wrongP p ≠ 0 ∧ e = .returned (.tuple #[.slice none 0 0, .slice none 0 0, .int .i64 (wrongP p)])) ∨
   (wrongP p = 0 ∧ ∃ vo ve, e = .returned (.tuple #[vo, ve, .int .i64 0]) ∧ Hid (Sl PieceR w' vo (outsP p st0 ns)) ∧ Hid (Ils w' ve (ns.map errP))))

/-- One more behind an own row. -/
theorem append_one {w : World} {ops : Array Oper} {rest : List Oper} {o : Oper} {a : Act} {Q : Exit → Act → World → Prop} (hgd : o.guard = none) (s x : Operand) (t e : TypeId) (z : Value) (bytes : Nat)
    (ht : Try.prog.underlying t = some (.slice e)) (hinf : (Try.prog.info? e).map (fun i => (i.zero, i.size, i.bytes)) = some (some z, 1, bytes)) (hzs : z.cells.size = 1)
    (ho : o.op = .call { callee := .builtin .append, args := #[s, x], argTypes := #[t, t] }) (base : Nat) (v : Value) (n : Nat) (xs : List Value) (hs : a.eval s = v) (d : Value) (hd : d.oneCell' = true)
    (hown : w.ownsRow base e 1 v n xs) (hx : a.eval x = .slice (some ⟨w.heap.size, 0, none⟩) 1 1) (hn : n + 1 ≤ 5864062014805) (hby : bytes ≤ 24) (hbase : base ≤ w.heap.size)
    (h : ∀ v' w', Hid (w'.ownsRow base e 1 v' (n + 1) (xs ++ [d])) → Hid (Gr base [e] w w') → wpList Try.prog ops Q rest (a.put o.dst v') w') :
    wpList Try.prog ops Q (o :: rest) a (w.alloc (.cells #[d] e)) := by
  obtain ⟨i0, hi, hz0, hz1, hz2⟩ := info_parts hinf
  refine wpList_append_own _ hgd s x t ho base e i0 z 1 bytes ht hi hz0 hz1 hz2 hzs (by decide) v n xs hs (hown.alloc _) ⟨w.heap.size, 0, none⟩ 1 1 [d] hx rfl ?_ ?_ ?_ ?_ ?_ ?_
  · exact cell_one_new _ _ _
  · intro u hu; simp at hu; subst hu; exact hd
  · unfold maxLen; omega
  · exact Nat.le_trans (Nat.mul_le_mul_left _ hby) (by omega)
  · simp; omega
  · intro v' w5 hown5 hg5 _
    exact h v' w5 hown5 ((Gr.alloc (Gr.refl _ _ _) _).trans (.of_append (hown.alloc _) hg5 (by simp)))

set_option maxHeartbeats 4000000 in
set_option maxRecDepth 100000 in
theorem sing_calls (p : Pt) (v : Value) (ns : List Int) (w : World) (hst : p.step < 4294967296) (hv : Ils w v ns) (hr : ∀ n ∈ ns, -9223372036854775808 ≤ n ∧ n ≤ 9223372036854775807) (hl : ns.length ≤ 5864062014804) :
    Calls Try.prog 16 #[.agg #[.int .i64 p.shape, .int .u32 p.step, .float .f64 p.gain, .int .i64 p.att, .int .i64 p.dec, .int .i64 p.rel, .int .i64 p.sus], v] w fun e w' => SingPost p ns w e w' := by
  obtain ⟨av, cv, rfl, hel⟩ := sl_open hv
  have HEL := Lib.hid hel
  have HRG := Lib.hid hr
  obtain ⟨m, hm⟩ : ∃ m, ns.length = m := ⟨_, rfl⟩
  have HM := Lib.hid hm
  rw [hm] at hl ⊢
  have NEW := Lib.hid (fun w => new_calls p w)
  have HG0 : Hid (w.grownBy (w.alloc (.cells #[.int .i64 p.shape, .int .u32 p.step, .float .f64 p.gain, .int .i64 p.att, .int .i64 p.dec, .int .i64 p.rel, .int .i64 p.sus] 33)) none) := grown_alloc (grown_refl _ _) _
  clear hv hel hr hm
  go_enter Try.func16, Try.ntmps16
  go_wp2_with fail
  refine (NEW.out _).mono ?_
  rintro e w1 ⟨hg1, ⟨hbad, rfl⟩ | ⟨hok, g, hgs, hva, rfl⟩⟩
  · have HG1 := Lib.hid (grown_trans HG0.out hg1.out)
    have hb2 : (wrongP p != 0) = true := by simpa using hbad
    have HBAD := Lib.hid hbad
    clear hg1 hbad NEW
    go_wp2_with fail
    go_ret3
    exact ⟨HG1.out, .inl ⟨HBAD.out, rfl⟩⟩
  have HG1 := Lib.hid (grown_trans HG0.out hg1.out)
  have HP := Lib.hid (okP_of hok)
  have HOK := Lib.hid hok
  have HSR : Hid (SRel w g p ns (outsP p st0 ns) (ns.map errP) 0 (.slice none 0 0) (.slice none 0 0) w1 st0) := srel_start hva HG1.out
  have hgB : w.heap.size ≤ g := Nat.le_trans HG0.out.size hgs
  obtain ⟨ys, hys⟩ : ∃ ys, outsP p st0 ns = ys := ⟨_, rfl⟩
  obtain ⟨es, hes⟩ : ∃ es, ns.map errP = es := ⟨_, rfl⟩
  have HYS := Lib.hid hys
  have HES := Lib.hid hes
  rw [hys, hes] at HSR
  clear hg1 hok hva NEW HG1 hys hes hgs
  go_wp2_with fail
  go_loopw [9, 10, 25] (fun vo ve i wr => ∃ (k : Nat) (s : St), k ≤ m ∧ i = .int .i64 k ∧ Hid (SRel w g p ns ys es k vo ve wr s)) (fun _ _ i _ => m - (intOf i).toNat)
  case atStart => exact ⟨0, st0, Nat.zero_le _, rfl, HSR⟩
  case round =>
    clear HSR
    obtain ⟨k, s, hk, rfl, HSR⟩ := hrel
    by_cases hlt : k < m
    · obtain ⟨n, hnk⟩ : ∃ n, ns[k]? = some n := ⟨ns[k]'(by rw [HM.out]; exact hlt), List.getElem?_eq_getElem _⟩
      obtain ⟨hn0, hn1⟩ := HRG.out n (List.mem_of_getElem? hnk)
      obtain ⟨b, off, u, rfl, hcu, rfl⟩ := HEL.out k n hnk
      have HNK := Lib.hid hnk
      obtain ⟨⟨vs, yss, ess, h1, h2, h3, h4, h5, h6, h7, h8⟩, hvo, hso, hfr⟩ := HSR.out
      have hcell : wr.cell? ⟨b, off + k, none⟩ = some (.int .i64 n) := hfr.none.cell hcu (by simp)
      have H1 := Lib.hid h1
      have H2 := Lib.hid h2
      have H3 := Lib.hid h3
      have H4 := Lib.hid h4
      have H5 := Lib.hid h5
      have H6 := Lib.hid h6
      have H7 := Lib.hid h7
      have H8 := Lib.hid h8
      have HV := Lib.hid hvo
      have HS := Lib.hid hso
      have HF := Lib.hid hfr
      have hws : w.heap.size ≤ wr.heap.size := hfr.size
      clear hnk hcu h1 h2 h3 h4 h5 h6 h7 h8 hvo hso hfr HSR
      by_cases hneg : n < 0
      · have hofs : fromS p s n = offS p s := by unfold fromS; rw [if_pos hneg]
        have HOFS := Lib.hid hofs
        have A1 := Lib.hid (off_calls g p s wr HV.out HP.out HS.out)
        clear hofs
        by_cases hmin : n = -9223372036854775808
        · have hgood : goodN n = false := by unfold goodN askN; rw [if_pos hneg, if_pos hmin]; simp; omega
          have HOUT : Hid (outP p s n = []) := by unfold Hid outP; rw [hgood]; rfl
          have HERR : Hid (errP n = 3) := by unfold Hid errP; rw [hgood]; rfl
          have HNX : Hid (nextP p s n = offS p s) := by unfold Hid nextP; rw [hgood, HOFS.out]; rfl
          clear hgood
          subst hmin
          go_upto_region 12 with (go_at_call 23; refine (A1.out).mono ?_; rintro e w2 ⟨rfl, HV2, HG2⟩)
          have HGr2 : Hid (Gr w.heap.size [60] wr w2) := Gr.of_some HG2.out HV.out (by simp) hgB
          clear hcell
          have HRB := Lib.hid (fun w => render_bad (.pointer (some ⟨g, 0, none⟩)) (wrap64 9223372036854775808) w (.inl (by decide +kernel)))
          go_upto_region 13 with (go_at_call 24; refine (HRB.out _).mono ?_; rintro e w3 ⟨rfl, rfl⟩)
          have HB3 : Hid (w.heap.size ≤ w2.heap.size) := Nat.le_trans hws HGr2.out.size
          have H1b : Hid (w2.ownsRow w.heap.size 40 1 u9 k vs) := owns_gr H1.out HGr2.out (by simp)
          have H6b : Hid (w2.ownsRow w.heap.size 26 1 u10 k (ess.map fun e => Value.int .i64 e)) := owns_gr H6.out HGr2.out (by simp)
          go_wp2_with (first
            | (at_builtin; refine append_one rfl _ _ 35 40 (.slice none 0 0) 24 Try.underlying35 info40 rfl rfl w.heap.size u9 k vs rfl (.slice none 0 0) rfl H1b.out rfl (by omega) (by decide) HB3.out ?_; intro vo5 w5 HO5 HG5; have HB5 : Hid (w.heap.size ≤ w5.heap.size) := Nat.le_trans HB3.out HG5.out.size; have H6c : Hid (w5.ownsRow w.heap.size 26 1 u10 k (ess.map fun e => Value.int .i64 e)) := owns_gr H6b.out HG5.out (by simp))
            | (at_builtin; refine append_one rfl _ _ 36 26 (.int .i64 0) 8 Try.underlying36 info26 rfl rfl w.heap.size u10 k _ rfl (.int .i64 3) rfl H6c.out rfl (by omega) (by decide) HB5.out ?_; intro ve6 w6 HO6 HG6))
          have HO6b : Hid (w6.ownsRow w.heap.size 26 1 ve6 (k + 1) ((ess ++ [errP (-9223372036854775808)]).map fun e => Value.int .i64 e)) := by
            unfold Hid
            rw [HERR.out, List.map_append]
            exact HO6.out
          have HSN : Hid (SRel w g p ns ys es (k + 1) vo5 ve6 w6 (nextP p s (-9223372036854775808))) := srel_next HP.out H2.out H3.out H4.out H5.out H7.out H8.out HS.out HF.out HNK.out HGr2.out (by rw [HOUT.out]; exact .inr ⟨rfl, rfl⟩) (by rw [HNX.out]; exact HV2.out) HO5.out HG5.out HO6b.out HG6.out
          clear HO5 HG5 HO6 HG6 HO6b H6c H1b H6b
          go_roundw
          case rel => exact ⟨k + 1, _, by omega, by go_num, HSN⟩
          case measure => simp [intOf]; omega
        · have hneg2 : 0 < -n := by omega
          obtain ⟨q, hq⟩ : ∃ q : Nat, -n = (q : Int) := ⟨(-n).toNat, by omega⟩
          have hask : askN n = q := by unfold askN; rw [if_pos hneg, if_neg hmin, hq]
          by_cases hbig : 65536 < q
          · have hgood : goodN n = false := by unfold goodN; rw [hask]; simp; omega
            have HOUT : Hid (outP p s n = []) := by unfold Hid outP; rw [hgood]; rfl
            have HERR : Hid (errP n = 3) := by unfold Hid errP; rw [hgood]; rfl
            have HNX : Hid (nextP p s n = offS p s) := by unfold Hid nextP; rw [hgood, HOFS.out]; rfl
            clear hgood hask
            go_upto_region 12 with (go_at_call 23; refine (A1.out).mono ?_; rintro e w2 ⟨rfl, HV2, HG2⟩)
            have HGr2 : Hid (Gr w.heap.size [60] wr w2) := Gr.of_some HG2.out HV.out (by simp) hgB
            clear hcell
            have HRB := Lib.hid (fun w => render_bad (.pointer (some ⟨g, 0, none⟩)) (q : Int) w (by omega))
            go_upto_region 13 with (go_at_call 24; refine (HRB.out _).mono ?_; rintro e w3 ⟨rfl, rfl⟩)
            have HB3 : Hid (w.heap.size ≤ w2.heap.size) := Nat.le_trans hws HGr2.out.size
            have H1b : Hid (w2.ownsRow w.heap.size 40 1 u9 k vs) := owns_gr H1.out HGr2.out (by simp)
            have H6b : Hid (w2.ownsRow w.heap.size 26 1 u10 k (ess.map fun e => Value.int .i64 e)) := owns_gr H6.out HGr2.out (by simp)
            go_wp2_with (first
              | (at_builtin; refine append_one rfl _ _ 35 40 (.slice none 0 0) 24 Try.underlying35 info40 rfl rfl w.heap.size u9 k vs rfl (.slice none 0 0) rfl H1b.out rfl (by omega) (by decide) HB3.out ?_; intro vo5 w5 HO5 HG5; have HB5 : Hid (w.heap.size ≤ w5.heap.size) := Nat.le_trans HB3.out HG5.out.size; have H6c : Hid (w5.ownsRow w.heap.size 26 1 u10 k (ess.map fun e => Value.int .i64 e)) := owns_gr H6b.out HG5.out (by simp))
              | (at_builtin; refine append_one rfl _ _ 36 26 (.int .i64 0) 8 Try.underlying36 info26 rfl rfl w.heap.size u10 k _ rfl (.int .i64 3) rfl H6c.out rfl (by omega) (by decide) HB5.out ?_; intro ve6 w6 HO6 HG6))
            have HO6b : Hid (w6.ownsRow w.heap.size 26 1 ve6 (k + 1) ((ess ++ [errP n]).map fun e => Value.int .i64 e)) := by
              unfold Hid
              rw [HERR.out, List.map_append]
              exact HO6.out
            have HSN : Hid (SRel w g p ns ys es (k + 1) vo5 ve6 w6 (nextP p s n)) := srel_next HP.out H2.out H3.out H4.out H5.out H7.out H8.out HS.out HF.out HNK.out HGr2.out (by rw [HOUT.out]; exact .inr ⟨rfl, rfl⟩) (by rw [HNX.out]; exact HV2.out) HO5.out HG5.out HO6b.out HG6.out
            clear HO5 HG5 HO6 HG6 HO6b H6c H1b H6b
            go_roundw
            case rel => exact ⟨k + 1, _, by omega, by go_num, HSN⟩
            case measure => simp [intOf]; omega
          · have hgood : goodN n = true := by unfold goodN; rw [hask]; simp; omega
            have HOUT : Hid (outP p s n = (play p q (offS p s)).1) := by unfold Hid outP; rw [hgood, hask, HOFS.out]; rfl
            have HERR : Hid (errP n = 0) := by unfold Hid errP; rw [hgood]; rfl
            have HNX : Hid (nextP p s n = after p q (offS p s)) := by unfold Hid nextP; rw [hgood, hask, HOFS.out]; rfl
            have HS2 : Hid (OkS (offS p s)) := off_ok HP.out HS.out
            clear hgood hask
            go_upto_region 12 with (go_at_call 23; refine (A1.out).mono ?_; rintro e w2 ⟨rfl, HV2, HG2⟩)
            have HGr2 : Hid (Gr w.heap.size [60] wr w2) := Gr.of_some HG2.out HV.out (by simp) hgB
            clear hcell
            have HRB := Lib.hid (render_calls g p (offS p s) q w2 HV2.out HP.out HS2.out hst (by omega))
            go_upto_region 13 with (go_at_call 24; refine (HRB.out).mono ?_; rintro e w3 ⟨vr, rfl, HOW, HV3, HG3, _⟩)
            have HGr3 : Hid (Gr w.heap.size [60] wr w3) := HGr2.out.trans (Gr.of_some HG3.out HV2.out (by simp) hgB)
            obtain ⟨g9, hv9, hr9⟩ := HOW.out
            rw [show ((play p q (offS p s)).1.map (Value.float .f64)).length = q from by simp [play_len]] at hv9
            subst hv9
            clear hr9
            have HB3 : Hid (w.heap.size ≤ w3.heap.size) := Nat.le_trans hws HGr3.out.size
            have H1b : Hid (w3.ownsRow w.heap.size 40 1 u9 k vs) := owns_gr H1.out HGr3.out (by simp)
            have H6b : Hid (w3.ownsRow w.heap.size 26 1 u10 k (ess.map fun e => Value.int .i64 e)) := owns_gr H6.out HGr3.out (by simp)
            go_wp2_with (first
              | (at_builtin; refine append_one rfl _ _ 35 40 (.slice none 0 0) 24 Try.underlying35 info40 rfl rfl w.heap.size u9 k vs rfl (.slice (some ⟨g9, 0, none⟩) q q) rfl H1b.out rfl (by omega) (by decide) HB3.out ?_; intro vo5 w5 HO5 HG5; have HB5 : Hid (w.heap.size ≤ w5.heap.size) := Nat.le_trans HB3.out HG5.out.size; have H6c : Hid (w5.ownsRow w.heap.size 26 1 u10 k (ess.map fun e => Value.int .i64 e)) := owns_gr H6b.out HG5.out (by simp))
              | (at_builtin; refine append_one rfl _ _ 36 26 (.int .i64 0) 8 Try.underlying36 info26 rfl rfl w.heap.size u10 k _ rfl (.int .i64 0) rfl H6c.out rfl (by omega) (by decide) HB5.out ?_; intro ve6 w6 HO6 HG6))
            have HO6b : Hid (w6.ownsRow w.heap.size 26 1 ve6 (k + 1) ((ess ++ [errP n]).map fun e => Value.int .i64 e)) := by
              unfold Hid
              rw [HERR.out, List.map_append]
              exact HO6.out
            have HSN : Hid (SRel w g p ns ys es (k + 1) vo5 ve6 w6 (nextP p s n)) := srel_next HP.out H2.out H3.out H4.out H5.out H7.out H8.out HS.out HF.out HNK.out HGr3.out (by rw [HOUT.out]; exact .inl HOW.out) (by rw [HNX.out]; exact HV3.out) HO5.out HG5.out HO6b.out HG6.out
            clear HO5 HG5 HO6 HG6 HO6b H6c H1b H6b
            go_roundw
            case rel => exact ⟨k + 1, _, by omega, by go_num, HSN⟩
            case measure => simp [intOf]; omega
      · obtain ⟨q, hq⟩ : ∃ q : Nat, n = (q : Int) := ⟨n.toNat, by omega⟩
        subst hq
        have hofs : fromS p s (q : Int) = s := by unfold fromS; rw [if_neg hneg]
        have hask : askN (q : Int) = q := by unfold askN; rw [if_neg hneg]
        by_cases hbig : 65536 < q
        · have hgood : goodN (q : Int) = false := by unfold goodN; rw [hask]; simp; omega
          have HOUT : Hid (outP p s (q : Int) = []) := by unfold Hid outP; rw [hgood]; rfl
          have HERR : Hid (errP (q : Int) = 3) := by unfold Hid errP; rw [hgood]; rfl
          have HNX : Hid (nextP p s (q : Int) = s) := by unfold Hid nextP; rw [hgood, hofs]; rfl
          clear hgood hask hofs
          go_upto_region 12 with fail
          obtain ⟨w2, hw2⟩ : ∃ w2, wr = w2 := ⟨_, rfl⟩
          have HG2 : Hid (wr.grownBy w2 (some g)) := hw2 ▸ grown_refl _ _
          have HV2 : Hid (VAt w2 g p s) := hw2 ▸ HV.out
          rw [hw2]
          clear hw2
          have HGr2 : Hid (Gr w.heap.size [60] wr w2) := Gr.of_some HG2.out HV.out (by simp) hgB
          clear hcell
          have HRB := Lib.hid (fun w => render_bad (.pointer (some ⟨g, 0, none⟩)) (q : Int) w (by omega))
          go_upto_region 13 with (go_at_call 24; refine (HRB.out _).mono ?_; rintro e w3 ⟨rfl, rfl⟩)
          have HB3 : Hid (w.heap.size ≤ w2.heap.size) := Nat.le_trans hws HGr2.out.size
          have H1b : Hid (w2.ownsRow w.heap.size 40 1 u9 k vs) := owns_gr H1.out HGr2.out (by simp)
          have H6b : Hid (w2.ownsRow w.heap.size 26 1 u10 k (ess.map fun e => Value.int .i64 e)) := owns_gr H6.out HGr2.out (by simp)
          go_wp2_with (first
            | (at_builtin; refine append_one rfl _ _ 35 40 (.slice none 0 0) 24 Try.underlying35 info40 rfl rfl w.heap.size u9 k vs rfl (.slice none 0 0) rfl H1b.out rfl (by omega) (by decide) HB3.out ?_; intro vo5 w5 HO5 HG5; have HB5 : Hid (w.heap.size ≤ w5.heap.size) := Nat.le_trans HB3.out HG5.out.size; have H6c : Hid (w5.ownsRow w.heap.size 26 1 u10 k (ess.map fun e => Value.int .i64 e)) := owns_gr H6b.out HG5.out (by simp))
            | (at_builtin; refine append_one rfl _ _ 36 26 (.int .i64 0) 8 Try.underlying36 info26 rfl rfl w.heap.size u10 k _ rfl (.int .i64 3) rfl H6c.out rfl (by omega) (by decide) HB5.out ?_; intro ve6 w6 HO6 HG6))
          have HO6b : Hid (w6.ownsRow w.heap.size 26 1 ve6 (k + 1) ((ess ++ [errP (q : Int)]).map fun e => Value.int .i64 e)) := by
            unfold Hid
            rw [HERR.out, List.map_append]
            exact HO6.out
          have HSN : Hid (SRel w g p ns ys es (k + 1) vo5 ve6 w6 (nextP p s (q : Int))) := srel_next HP.out H2.out H3.out H4.out H5.out H7.out H8.out HS.out HF.out HNK.out HGr2.out (by rw [HOUT.out]; exact .inr ⟨rfl, rfl⟩) (by rw [HNX.out]; exact HV2.out) HO5.out HG5.out HO6b.out HG6.out
          clear HO5 HG5 HO6 HG6 HO6b H6c H1b H6b
          go_roundw
          case rel => exact ⟨k + 1, _, by omega, by go_num, HSN⟩
          case measure => simp [intOf]; omega
        · have hgood : goodN (q : Int) = true := by unfold goodN; rw [hask]; simp; omega
          have HOUT : Hid (outP p s (q : Int) = (play p q s).1) := by unfold Hid outP; rw [hgood, hask, hofs]; rfl
          have HERR : Hid (errP (q : Int) = 0) := by unfold Hid errP; rw [hgood]; rfl
          have HNX : Hid (nextP p s (q : Int) = after p q s) := by unfold Hid nextP; rw [hgood, hask, hofs]; rfl
          have HS2 := HS
          clear hgood hask hofs
          go_upto_region 12 with fail
          obtain ⟨w2, hw2⟩ : ∃ w2, wr = w2 := ⟨_, rfl⟩
          have HG2 : Hid (wr.grownBy w2 (some g)) := hw2 ▸ grown_refl _ _
          have HV2 : Hid (VAt w2 g p s) := hw2 ▸ HV.out
          rw [hw2]
          clear hw2
          have HGr2 : Hid (Gr w.heap.size [60] wr w2) := Gr.of_some HG2.out HV.out (by simp) hgB
          clear hcell
          have HRB := Lib.hid (render_calls g p (s) q w2 HV2.out HP.out HS2.out hst (by omega))
          go_upto_region 13 with (go_at_call 24; refine (HRB.out).mono ?_; rintro e w3 ⟨vr, rfl, HOW, HV3, HG3, _⟩)
          have HGr3 : Hid (Gr w.heap.size [60] wr w3) := HGr2.out.trans (Gr.of_some HG3.out HV2.out (by simp) hgB)
          obtain ⟨g9, hv9, hr9⟩ := HOW.out
          rw [show ((play p q (s)).1.map (Value.float .f64)).length = q from by simp [play_len]] at hv9
          subst hv9
          clear hr9
          have HB3 : Hid (w.heap.size ≤ w3.heap.size) := Nat.le_trans hws HGr3.out.size
          have H1b : Hid (w3.ownsRow w.heap.size 40 1 u9 k vs) := owns_gr H1.out HGr3.out (by simp)
          have H6b : Hid (w3.ownsRow w.heap.size 26 1 u10 k (ess.map fun e => Value.int .i64 e)) := owns_gr H6.out HGr3.out (by simp)
          go_wp2_with (first
            | (at_builtin; refine append_one rfl _ _ 35 40 (.slice none 0 0) 24 Try.underlying35 info40 rfl rfl w.heap.size u9 k vs rfl (.slice (some ⟨g9, 0, none⟩) q q) rfl H1b.out rfl (by omega) (by decide) HB3.out ?_; intro vo5 w5 HO5 HG5; have HB5 : Hid (w.heap.size ≤ w5.heap.size) := Nat.le_trans HB3.out HG5.out.size; have H6c : Hid (w5.ownsRow w.heap.size 26 1 u10 k (ess.map fun e => Value.int .i64 e)) := owns_gr H6b.out HG5.out (by simp))
            | (at_builtin; refine append_one rfl _ _ 36 26 (.int .i64 0) 8 Try.underlying36 info26 rfl rfl w.heap.size u10 k _ rfl (.int .i64 0) rfl H6c.out rfl (by omega) (by decide) HB5.out ?_; intro ve6 w6 HO6 HG6))
          have HO6b : Hid (w6.ownsRow w.heap.size 26 1 ve6 (k + 1) ((ess ++ [errP (q : Int)]).map fun e => Value.int .i64 e)) := by
            unfold Hid
            rw [HERR.out, List.map_append]
            exact HO6.out
          have HSN : Hid (SRel w g p ns ys es (k + 1) vo5 ve6 w6 (nextP p s (q : Int))) := srel_next HP.out H2.out H3.out H4.out H5.out H7.out H8.out HS.out HF.out HNK.out HGr3.out (by rw [HOUT.out]; exact .inl HOW.out) (by rw [HNX.out]; exact HV3.out) HO5.out HG5.out HO6b.out HG6.out
          clear HO5 HG5 HO6 HG6 HO6b H6c H1b H6b
          go_roundw
          case rel => exact ⟨k + 1, _, by omega, by go_num, HSN⟩
          case measure => simp [intOf]; omega
    · obtain rfl : k = m := by omega
      obtain ⟨⟨vs, yss, ess, h1, h2, h3, h4, h5, h6, h7, h8⟩, hvo, hso, hfr⟩ := HSR.out
      have hd : ns.drop k = [] := List.drop_eq_nil_of_le (by rw [HM.out]; exact Nat.le_refl _)
      rw [hd] at h7 h8
      simp only [outsP, List.append_nil, List.map_nil] at h7 h8
      subst h7 h8
      have HF := Lib.hid hfr.none
      have HO := Lib.hid (owns_sl (R := PieceR) h1 (by rw [h2, h3]) fun i u x hu hx => h5 i u x hu hx)
      have HE := Lib.hid (owns_sl (xs := es) (R := fun _ u x => u = Value.int .i64 x) h6 (by simp) fun i u x hu hx => by
        rw [List.getElem?_map, hx] at hu
        simpa using hu.symm)
      clear h1 h2 h3 h4 h5 h6 hvo hso hfr hd HSR
      go_wp2_with fail
      go_ret3
      exact ⟨HF.out, .inr ⟨HOK.out, _, _, rfl, by rw [HYS.out]; exact HO, by rw [HES.out]; exact HE⟩⟩

end Go.Proofs.Ytadaegnkclleaaa.VSing
