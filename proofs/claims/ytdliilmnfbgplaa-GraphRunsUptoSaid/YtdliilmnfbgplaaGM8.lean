/- Texts of the graph seat, in one file: GSoundS, GSound, GAlive. -/
import Derived.Test.YtdliilmnfbgplaaGM7
/- A graph that is played, piece by piece: where it stands. -/
namespace Go.Proofs.Ytdliilmnfbgplaa.GSoundS
open Go Go.RowKit Go.Proofs.Ytdliilmnfbgplaa.GPiece Go.Proofs.Ytdliilmnfbgplaa.Fl Go.Proofs.Ytdliilmnfbgplaa.Fw Go.Proofs.Ytdliilmnfbgplaa.GRd Go.Proofs.Ytdliilmnfbgplaa.GCells Go.Proofs.Ytdliilmnfbgplaa.GStep Go.Proofs.Ytdliilmnfbgplaa.GMod Go.Proofs.Ytdliilmnfbgplaa.GOrd Go.Proofs.Ytdliilmnfbgplaa.GMem Go.Proofs.Ytdliilmnfbgplaa.GNode Go.Proofs.Ytdliilmnfbgplaa.GNode2 Go.Proofs.Ytdliilmnfbgplaa.GNode4 Go.Proofs.Ytdliilmnfbgplaa.GPMem Go.Proofs.Ytdliilmnfbgplaa.GPState Go.Proofs.Ytdliilmnfbgplaa.GOuts Go.Proofs.Ytdliilmnfbgplaa.GSub Go.Proofs.Ytdliilmnfbgplaa.GRun Go.Proofs.Ytdliilmnfbgplaa.GRest Go.Proofs.Ytdliilmnfbgplaa.GMade Go.Proofs.Ytdliilmnfbgplaa.GClone Go.Proofs.Ytdliilmnfbgplaa.GSort1 Go.Proofs.Ytdliilmnfbgplaa.GSort Go.Proofs.Ytdliilmnfbgplaa.GNewS Go.Proofs.Ytdliilmnfbgplaa.GNew Go.Proofs.Ytdliilmnfbgplaa.Hp Go.Proofs.Ytdliilmnfbgplaa.Rd Go.Proofs.Ytdliilmnfbgplaa.Opn
set_option linter.unusedVariables false
set_option linter.unusedSimpArgs false

def pcC (p : Pc × Value) : List Value := [p.2, .int .i64 p.1.n, .bool p.1.rest]
theorem pcC_len (p : Pc × Value) : (pcC p).length = 3 := rfl
/-- Pieces as they are given. -/
def PcsR (w : World) (A : Nat → Prop) (v : Value) (xs : List Pc) : Prop :=
  ∃ ps : List (Pc × Value), ps.map Prod.fst = xs ∧ SlA 3 pcC w A v ps ∧ ∀ p ∈ ps, InsR w A p.2 p.1.ins
def hdC (p : Value × Int) : List Value := [p.1, .int .i64 p.2]
theorem hdC_len (p : Value × Int) : (hdC p).length = 2 := rfl
/-- What is heard, in memory. -/
def HdsR (w : World) (A : Nat → Prop) (v : Value) (rs : List (List (List Nat) × Int)) : Prop :=
  ∃ hs : List (Value × Int), hs.length = rs.length ∧ SlA 2 hdC w A v hs ∧ ∀ (i : Nat) (p : Value × Int) (r : List (List Nat) × Int), hs[i]? = some p → rs[i]? = some r → p.2 = r.2 ∧ CLl w A p.1 r.1
theorem HdsR.grown {w w' : World} {A : Nat → Prop} {v : Value} {rs : List (List (List Nat) × Int)} (h : HdsR w A v rs) (hg : w.grownBy w' none) : HdsR w' A v rs := by
  obtain ⟨hs, h1, h2, h3⟩ := h
  exact ⟨hs, h1, h2.grown hg, fun i p r hp hr => ⟨(h3 i p r hp hr).1, (h3 i p r hp hr).2.grown hg⟩⟩
theorem PcsR.grown {w w' : World} {A : Nat → Prop} {v : Value} {xs : List Pc} (h : PcsR w A v xs) (hg : w.grownBy w' none) : PcsR w' A v xs := by
  obtain ⟨ps, h1, h2, h3⟩ := h
  exact ⟨ps, h1, h2.grown hg, fun p hp => (h3 p hp).fr (X := fun _ => False) (.none hg) (fun _ _ => id)⟩
theorem InsR.grown {w w' : World} {A : Nat → Prop} {v : Value} {ls : List (List Nat)} (h : InsR w A v ls) (hg : w.grownBy w' none) : InsR w' A v ls := InsR.fr h (X := fun _ => False) (.none hg) (fun _ _ => id)

/-- Where it stands behind k pieces. -/
structure SdS (B : Nat) (wr : World) (Z : Nat → Prop) (h : Hn) (g : Gd) (order : List Nat) (chunk : Nat) (vs : List Value) (k : Nat) (A : Nat → Nat → Prop) (st : List NS) (oa : Option Addr) (oc : Nat) (hs : List (Value × Int)) (rs : List (List (List Nat) × Int)) (R : Nat → Prop) : Prop where
  gst : GSt wr Z A h g order chunk vs st
  own : wr.ownsRow B 37 2 (.slice oa k oc) k (flC hdC hs)
  hl : hs.length = k
  rl : rs.length = k
  val : ∀ (i : Nat) (p : Value × Int) (r : List (List Nat) × Int), hs[i]? = some p → rs[i]? = some r → p.2 = r.2 ∧ CLl wr R p.1 r.1
  rr : ∀ b, R b → B ≤ b ∧ b < wr.heap.size ∧ (∀ i, ¬ A i b) ∧ b ≠ h.pb ∧ (Value.slice oa k oc).ownBlock ≠ some b
  oo : ∀ b, (Value.slice oa k oc).ownBlock = some b → (∀ i, ¬ A i b) ∧ b ≠ h.pb ∧ ¬ Z b
  ab : ∀ i b, A i b → B ≤ b
  pbB : B ≤ h.pb

section
variable {B : Nat} {wr w2 : World} {Z : Nat → Prop} {h : Hn} {g : Gd} {order : List Nat} {chunk : Nat} {vs : List Value} {k : Nat} {A : Nat → Nat → Prop} {st : List NS} {oa : Option Addr} {oc : Nat} {hs : List (Value × Int)} {rs : List (List (List Nat) × Int)} {R : Nat → Prop}
theorem SdS.grown (s : SdS B wr Z h g order chunk vs k A st oa oc hs rs R) (hg : wr.grownBy w2 none) : SdS B w2 Z h g order chunk vs k A st oa oc hs rs R :=
  ⟨s.gst.grown hg, own_kept s.own hg, s.hl, s.rl, fun i p r hp hr => ⟨(s.val i p r hp hr).1, (s.val i p r hp hr).2.grown hg⟩, fun b hb => ⟨(s.rr b hb).1, Nat.lt_of_lt_of_le (s.rr b hb).2.1 hg.size, (s.rr b hb).2.2⟩, s.oo, s.ab, s.pbB⟩
/-- All is brought to rest. -/
theorem SdS.rest (s : SdS B wr Z h g order chunk vs k A st oa oc hs rs R) {A2 : Nat → Nat → Prop} (hgst : GSt w2 Z A2 h g order chunk vs (st.map restN)) (hf : Fr (fun b => ∃ i, A i b) wr w2) (hA : ∀ i b, A2 i b → A i b ∨ wr.heap.size ≤ b) (hB : B ≤ wr.heap.size) :
    SdS B w2 Z h g order chunk vs k A2 (st.map restN) oa oc hs rs R := by
  refine ⟨hgst, own_fr s.own hf (fun b hb => ?_), s.hl, s.rl, fun i p r hp hr => ⟨(s.val i p r hp hr).1, (s.val i p r hp hr).2.fr hf (fun b hb => ?_)⟩, fun b hb => ?_, fun b hb => ?_, fun i b hb => ?_, s.pbB⟩
  · rintro ⟨i, e⟩
    exact (s.oo b hb).1 i e
  · rintro ⟨i, e⟩
    exact (s.rr b hb).2.2.1 i e
  · obtain ⟨h1, h2, h3, h4, h5⟩ := s.rr b hb
    refine ⟨h1, Nat.lt_of_lt_of_le h2 hf.size, fun i e => ?_, h4, h5⟩
    rcases hA i b e with e | e
    · exact h3 i e
    · omega
  · obtain ⟨h1, h2, h3⟩ := s.oo b hb
    refine ⟨fun i e => ?_, h2, h3⟩
    rcases hA i b e with e | e
    · exact h1 i e
    · have := (own_base s.own hb).2
      omega
  · rcases hA i b hb with e | e
    · exact s.ab i b e
    · omega
/-- A piece is played. -/
theorem SdS.run (s : SdS B wr Z h g order chunk vs k A st oa oc hs rs R) {st2 : List NS} (hgst : GSt w2 Z A h g order chunk vs st2) (hf : Fr (fun b => (∃ i, A i b) ∨ b = h.pb) wr w2) :
    SdS B w2 Z h g order chunk vs k A st2 oa oc hs rs R := by
  refine ⟨hgst, own_fr s.own hf (fun b hb => ?_), s.hl, s.rl, fun i p r hp hr => ⟨(s.val i p r hp hr).1, (s.val i p r hp hr).2.fr hf (fun b hb => ?_)⟩, fun b hb => ?_, s.oo, s.ab, s.pbB⟩
  · rintro (⟨i, e⟩ | e)
    · exact (s.oo b hb).1 i e
    · exact (s.oo b hb).2.1 e
  · rintro (⟨i, e⟩ | e)
    · exact (s.rr b hb).2.2.1 i e
    · exact (s.rr b hb).2.2.2.1 e
  · obtain ⟨h1, h2, h3, h4, h5⟩ := s.rr b hb
    exact ⟨h1, Nat.lt_of_lt_of_le h2 hf.size, h3, h4, h5⟩
/-- What is heard is put behind. -/
theorem SdS.push (s : SdS B wr Z h g order chunk vs k A st oa oc hs rs R) {u : Value} {e : Int} {r : List (List Nat) × Int} {oa2 : Option Addr} {oc2 : Nat} {Rn : Nat → Prop}
    (ho : w2.ownsRow B 37 2 (.slice oa2 (k + 1) oc2) (k + 1) (flC hdC hs ++ [u, .int .i64 e])) (hg : wr.grownBy w2 (Value.slice oa k oc).ownBlock) (hat : (Value.slice oa2 (k + 1) oc2).ownBlock = (Value.slice oa k oc).ownBlock ∨ (Value.slice oa2 (k + 1) oc2).ownBlock = some wr.heap.size)
    (he : e = r.2) (hu : CLl wr Rn u r.1) (hR : ∀ b, Rn b → B ≤ b ∧ b < wr.heap.size ∧ (∀ i, ¬ A i b) ∧ b ≠ h.pb ∧ (Value.slice oa k oc).ownBlock ≠ some b) :
    SdS B w2 Z h g order chunk vs (k + 1) A st oa2 oc2 (hs ++ [(u, e)]) (rs ++ [r]) (fun b => R b ∨ Rn b) := by
  have hf : Fr (fun b => (Value.slice oa k oc).ownBlock = some b) wr w2 := .of hg (fun i e => e)
  have hl := s.gst.lay
  have hsz := hf.size
  have hnew : ∀ b, (B ≤ b ∧ b < wr.heap.size ∧ (∀ i, ¬ A i b) ∧ b ≠ h.pb ∧ (Value.slice oa k oc).ownBlock ≠ some b) → B ≤ b ∧ b < w2.heap.size ∧ (∀ i, ¬ A i b) ∧ b ≠ h.pb ∧ (Value.slice oa2 (k + 1) oc2).ownBlock ≠ some b := fun b ⟨h1, h2, h3, h4, h5⟩ => ⟨h1, by omega, h3, h4, fun e2 => by
    rcases hat with e3 | e3
    · rw [e3] at e2
      exact h5 e2
    · rw [e3] at e2
      injection e2 with e2
      omega⟩
  refine ⟨s.gst.fr hf (fun b hb => ?_), ?_, by rw [List.length_append, s.hl]; rfl, by rw [List.length_append, s.rl]; rfl, fun i p q hp hq => ?_, fun b hb => ?_, fun b hb => ?_, s.ab, s.pbB⟩
  · obtain ⟨h1, h2, h3⟩ := s.oo b hb
    exact ⟨h3, h1, h2⟩
  · rw [flC_append]
    have e1 : flC hdC [(u, e)] = [u, .int .i64 e] := by simp [flC, hdC]
    rw [e1]
    exact ho
  · rcases Nat.lt_or_ge i hs.length with hi | hi
    · rw [List.getElem?_append_left hi] at hp
      rw [List.getElem?_append_left (by rw [s.rl, ← s.hl]; exact hi)] at hq
      obtain ⟨h1, h2⟩ := s.val i p q hp hq
      exact ⟨h1, (h2.fr hf (fun b hb e => (s.rr b hb).2.2.2.2 e)).mono (fun b => .inl)⟩
    · rw [List.getElem?_append_right hi] at hp
      rw [List.getElem?_append_right (by rw [s.rl, ← s.hl]; exact hi)] at hq
      have hi2 : i - hs.length = 0 := by have := (List.getElem?_eq_some_iff.1 hp).1; simpa using this
      rw [hi2] at hp
      rw [show i - rs.length = 0 from by rw [s.rl, ← s.hl]; exact hi2] at hq
      simp at hp hq
      subst hp hq
      exact ⟨he, (hu.fr hf (fun b hb e => (hR b hb).2.2.2.2 e)).mono (fun b => .inr)⟩
  · rcases hb with hb | hb
    · exact hnew b (s.rr b hb)
    · exact hnew b (hR b hb)
  · rcases hat with e3 | e3
    · rw [e3] at hb
      exact s.oo b hb
    · rw [e3] at hb
      injection hb with hb
      refine ⟨fun i e => ?_, fun e => ?_, fun e => ?_⟩
      · have := hl.al i b e
        omega
      · have := hl.pl
        omega
      · have := hl.zl b e
        omega
/-- At the end it reads. -/
theorem SdS.reads (s : SdS B wr Z h g order chunk vs k A st oa oc hs rs R) : HdsR wr (fun b => B ≤ b ∧ b < wr.heap.size) (.slice oa k oc) rs :=
  ⟨hs, by rw [s.hl, s.rl], sla_of_own hdC_len (xs := hs) (by rw [s.hl]; exact s.own) _ (fun b hb => own_base s.own hb), fun i p r hp hr => ⟨(s.val i p r hp hr).1, (s.val i p r hp hr).2.mono (fun b hb => ⟨(s.rr b hb).1, (s.rr b hb).2.1⟩)⟩⟩
end
end Go.Proofs.Ytdliilmnfbgplaa.GSoundS

/- A graph that is played, piece by piece: the walk. -/
namespace Go.Proofs.Ytdliilmnfbgplaa.GSound
open Go Go.RowKit Go.Proofs.Ytdliilmnfbgplaa.GPiece Go.Proofs.Ytdliilmnfbgplaa.Fl Go.Proofs.Ytdliilmnfbgplaa.Fw Go.Proofs.Ytdliilmnfbgplaa.GRd Go.Proofs.Ytdliilmnfbgplaa.GCells Go.Proofs.Ytdliilmnfbgplaa.GStep Go.Proofs.Ytdliilmnfbgplaa.GMod Go.Proofs.Ytdliilmnfbgplaa.GOrd Go.Proofs.Ytdliilmnfbgplaa.GMem Go.Proofs.Ytdliilmnfbgplaa.GNode Go.Proofs.Ytdliilmnfbgplaa.GNode2 Go.Proofs.Ytdliilmnfbgplaa.GNode4 Go.Proofs.Ytdliilmnfbgplaa.GPMem Go.Proofs.Ytdliilmnfbgplaa.GPState Go.Proofs.Ytdliilmnfbgplaa.GOuts Go.Proofs.Ytdliilmnfbgplaa.GSub Go.Proofs.Ytdliilmnfbgplaa.GRun Go.Proofs.Ytdliilmnfbgplaa.GRest Go.Proofs.Ytdliilmnfbgplaa.GMade Go.Proofs.Ytdliilmnfbgplaa.GClone Go.Proofs.Ytdliilmnfbgplaa.GSort1 Go.Proofs.Ytdliilmnfbgplaa.GSort Go.Proofs.Ytdliilmnfbgplaa.GNewS Go.Proofs.Ytdliilmnfbgplaa.GNew Go.Proofs.Ytdliilmnfbgplaa.GSoundS Go.Proofs.Ytdliilmnfbgplaa.Hp Go.Proofs.Ytdliilmnfbgplaa.Rd Go.Proofs.Ytdliilmnfbgplaa.Opn
set_option linter.unusedVariables false
set_option linter.unusedSimpArgs false

theorem info37 : (Try.prog.info? 37).map (fun i => (i.zero, i.size, i.bytes)) = some (some (.agg #[.slice none 0 0, .int .i64 0]), 2, 32) := by kernel_rfl

def SoundP (w : World) (g : Gd) (pieces : List Pc) (e : Ending) (w' : World) : Prop :=
  Hid (w.grownBy w' none) ∧
  ((preE g ≠ 0 ∧ e = .returned (.tuple #[.slice none 0 0, .int .i64 (preE g)])) ∨
   (preE g = 0 ∧ ∃ s, Hid (Vis g (s0 g.nodes.length) (.inr (List.range g.nodes.length)) false s) ∧ e = .returned (.tuple #[.slice none 0 0, .int .i64 10])) ∨
   (preE g = 0 ∧ ∃ (s : Sr) (ov : Value), Hid (Vis g (s0 g.nodes.length) (.inr (List.range g.nodes.length)) true s) ∧ e = .returned (.tuple #[ov, .int .i64 0]) ∧
     Hid (HdsR w' (fun b => w.heap.size ≤ b ∧ b < w'.heap.size) ov (soundG g s.order (chunkK g.nodes) (g.nodes.map GMod.start) pieces))))

theorem pcs_at {w : World} {A : Nat → Prop} {ao : Option Addr} {n c : Nat} {xs : List Pc} (h : PcsR w A (.slice ao n c) xs) {i : Nat} {x : Pc} (hx : xs[i]? = some x) :
    ∃ b off ia ic, ao = some ⟨b, off, none⟩ ∧ A b ∧ w.rangeAt b (off + i * 3) (pcC (x, .slice ia x.ins.length ic)) ∧ InsR w A (.slice ia x.ins.length ic) x.ins := by
  obtain ⟨ps, rfl, h2, h3⟩ := h
  rw [List.getElem?_map] at hx
  cases hp : ps[i]? with
  | none => rw [hp] at hx; cases hx
  | some p =>
    rw [hp] at hx
    simp at hx
    subst hx
    obtain ⟨b, off, rfl, hA, hr⟩ := sla_at h2 hp
    have hs := h3 p (List.mem_of_getElem? hp)
    obtain ⟨x, f⟩ := p
    obtain ⟨fa, fc, e⟩ := cll_open hs.cll
    replace e : f = .slice fa x.ins.length fc := e
    subst e
    exact ⟨b, off, fa, fc, rfl, hA, hr, hs⟩

set_option maxHeartbeats 8000000 in
set_option maxRecDepth 100000 in
theorem sound_calls (A0 : Nat → Prop) (g : Gd) (na oa : Option Addr) (nc oc : Nat) (pa : Option Addr) (pc : Nat) (pieces : List Pc) (w : World) (hnd : NdsR w A0 (.slice na g.nodes.length nc) g.nodes) (hou : SlA 1 iC w A0 (.slice oa g.outs.length oc) g.outs)
    (hfl : ∀ x ∈ g.nodes, x.from_.length ≤ 1048576 ∧ x.pt.step < 4294967296) (hpc : PcsR w A0 (.slice pa pieces.length pc) pieces) (hA0 : ∀ b, A0 b → b < w.heap.size) (hpl : ∀ p ∈ pieces, p.ins.length ≤ 1048576) (hlen : pieces.length ≤ 1099511627776) :
    Calls Try.prog 7 #[gdV g.ins (.slice na g.nodes.length nc) (.slice oa g.outs.length oc), .slice pa pieces.length pc] w fun e w' => SoundP w g pieces e w' := by
  obtain ⟨L, hL⟩ : ∃ L, pieces.length = L := ⟨_, rfl⟩
  have NC := fun (v : World) (hv : w.grownBy v none) => new_calls A0 g na oa nc oc v (hnd.fr (X := fun _ => False) (.none hv) (fun _ _ => id)) (hou.grown hv) hfl
  have HL := Lib.hid hL
  rw [hL] at hpc hlen ⊢
  have HPC := Lib.hid hpc
  have HA0 := Lib.hid hA0
  have HPL := Lib.hid hpl
  obtain ⟨N, hN⟩ : ∃ N, g.nodes.length = N := ⟨_, rfl⟩
  obtain ⟨M, hM⟩ : ∃ M, g.outs.length = M := ⟨_, rfl⟩
  obtain ⟨ins, hins⟩ : ∃ ins, g.ins = ins := ⟨_, rfl⟩
  unfold gdV at NC ⊢
  rw [hN, hM, hins] at NC ⊢
  have hga := grown_alloc (grown_refl w none) (.cells #[.int .i64 ins, .slice na N nc, .slice oa M oc] 25)
  have NC2 := Lib.hid (NC _ hga)
  have HGA := Lib.hid hga
  clear NC hnd hou hfl hpc hA0 hpl hL hN hM hins hga
  go_enter Try.func7, Try.ntmps7
  go_upto_region 4 with (go_at_call 13; refine (NC2.out).mono ?_; rintro ez w2 ⟨hg2, ⟨hp, rfl⟩ | ⟨hp, s, hv, rfl⟩ | ⟨hp, s, h, Z, A, vs, hv, rfl, hgst, hfresh⟩⟩)
  · go_ret2
    exact ⟨grown_trans HGA.out hg2.out, .inl ⟨hp, rfl⟩⟩
  · go_ret2
    exact ⟨grown_trans HGA.out hg2.out, .inr (.inl ⟨hp, s, hv, rfl⟩)⟩
  obtain ⟨ST, hST⟩ : ∃ ST, g.nodes.map GMod.start = ST := ⟨_, rfl⟩
  obtain ⟨C, hC⟩ : ∃ C, chunkK g.nodes = C := ⟨_, rfl⟩
  obtain ⟨B, hB⟩ : ∃ B, w.heap.size = B := ⟨_, rfl⟩
  rw [hST, hC] at hgst
  have HV := Lib.hid hv.out
  have HP := Lib.hid hp
  have HST := Lib.hid hST
  have HC := Lib.hid hC
  have HB := Lib.hid hB
  have hsg := HGA.out.size
  have hs2 := hg2.out.size
  have HG2 : Hid (w.grownBy w2 none) := grown_trans HGA.out hg2.out
  obtain ⟨hfz, hfa, hfp⟩ := hfresh.out
  have HSD0 : Hid (SdS B w2 Z h g s.order C vs 0 A ST none 0 [] [] (fun _ => False)) := ⟨hgst.out, World.ownsRow_nil _ _ _ _, rfl, rfl, fun i p r hp => by simp at hp, fun b hb => hb.elim, fun b hb => by simp [Value.ownBlock] at hb, fun i b hb => by have := hfa i b hb; omega, by omega⟩
  have HBS2 : Hid (B ≤ w2.heap.size) := by unfold Hid; omega
  obtain ⟨gb, pb, na2, nc2, oa2, oc2, va2, vc2, ra2, rc2⟩ := h
  dsimp only
  clear hST hC hB hv hp hgst hfresh hfz hfa hfp hsg hs2 hg2 NC2
  go_upto_region 6 with fail
  go_loopw [8, 23] (fun v8 v23 wr => ∃ (k : Nat) (A : Nat → Nat → Prop) (st : List NS) (oz : Option Addr) (ozc : Nat) (hs : List (Value × Int)) (rs : List (List (List Nat) × Int)) (R : Nat → Prop), k ≤ L ∧ v23 = .int .i64 (k : Int) ∧ v8 = .slice oz k ozc ∧ Hid (SdS B wr Z ⟨gb, pb, na2, nc2, oa2, oc2, va2, vc2, ra2, rc2⟩ g s.order C vs k A st oz ozc hs rs R) ∧ Hid (w.grownBy wr none) ∧ Hid (soundG g s.order C ST pieces = rs ++ soundG g s.order C st (pieces.drop k))) (fun _ v23 _ => L - (intOf v23).toNat)
  case atStart => exact ⟨0, A, ST, none, 0, [], [], _, Nat.zero_le _, rfl, rfl, HSD0.out, HG2.out, rfl⟩
  case round =>
    obtain ⟨k, A, st, oz, ozc, hs, rs, R, hk, rfl, rfl, HSD, HGR, HEQ⟩ := hrel
    obtain ⟨wz, hwz⟩ : ∃ wz : World, wz = wr := ⟨_, rfl⟩
    subst hwz
    by_cases hkL : k = L
    · have h2 := hkL.symm
      subst h2
      clear hkL
      have HE : Hid (soundG g s.order (chunkK g.nodes) (g.nodes.map GMod.start) pieces = rs) := by
        unfold Hid
        rw [HST.out, HC.out, HEQ.out, List.drop_of_length_le (Nat.le_of_eq HL.out)]
        simp [soundG]
      go_wp2_with fail
      go_ret2
      refine ⟨HGR.out, .inr (.inr ⟨HP.out, s, .slice oz L ozc, HV.out, rfl, ?_⟩)⟩
      rw [HE.out]
      have h := HSD.out.reads
      rw [← HB.out] at h
      exact h
    have hkl : (k : Int) < (L : Int) := by omega
    have hkl2 : k < L := by omega
    have hwk : IntKind.i64.wrap ((k : Int) + 1) = (k : Int) + 1 := IntWalk.i64_in _ (by omega)
    obtain ⟨x, hx⟩ : ∃ x, pieces[k]? = some x := ⟨pieces[k]'(by rw [HL.out]; exact hkl2), List.getElem?_eq_getElem _⟩
    have hpx := HPL.out x (List.mem_of_getElem? hx)
    have HDR : Hid (soundG g s.order C st (pieces.drop k) = (runG g s.order C (if x.rest = true then st.map restN else st) x.ins x.n).1 :: soundG g s.order C (runG g s.order C (if x.rest = true then st.map restN else st) x.ins x.n).2 (pieces.drop (k + 1))) := by
      unfold Hid
      obtain ⟨hh, he⟩ := List.getElem?_eq_some_iff.1 hx
      rw [List.drop_eq_getElem_cons hh, he]
      rfl
    obtain ⟨b6, o6, ia, ic, rfl, hA6, hrg, hin⟩ := pcs_at HPC.out hx
    obtain ⟨pins, pn, pr⟩ := x
    dsimp only at hin hpx HDR
    have d0 := grown_cell HGR.out (hrg 0 _ rfl) (by simp)
    rw [Nat.add_zero] at d0
    have d1 := grown_cell HGR.out (hrg 1 _ rfl) (by simp)
    have d2 := grown_cell HGR.out (hrg 2 _ rfl) (by simp)
    dsimp only at d0 d1 d2
    obtain ⟨K, hK⟩ : ∃ K, pins.length = K := ⟨_, rfl⟩
    rw [hK] at hin d0 hpx
    have HK := Lib.hid hK
    have HIN := Lib.hid hin
    clear hx hrg hin hK
    go_upto_region 8 with fail
    have hgz5 : wz.grownBy (wz.alloc (.cells #[.slice ia K ic, .int .i64 pn, .bool pr] 34)) none := grown_alloc (grown_refl _ _) _
    have hdb5 := heap_alloc_new wz (.cells #[.slice ia K ic, .int .i64 pn, .bool pr] 34)
    obtain ⟨w5, hw5⟩ : ∃ w5, wz.alloc (.cells #[.slice ia K ic, .int .i64 pn, .bool pr] 34) = w5 := ⟨_, rfl⟩
    rw [hw5] at hgz5 hdb5
    obtain ⟨dB, hdB⟩ : ∃ dB, wz.heap.size = dB := ⟨_, rfl⟩
    rw [hdB] at hdb5
    have HDB5 := Lib.hid hdb5
    have HG5 : Hid (w.grownBy w5 none) := grown_trans HGR.out hgz5
    have HSD5 := Lib.hid (HSD.out.grown hgz5)
    have HDBA : Hid ((∀ i, ¬ A i dB) ∧ dB ≠ pb) := ⟨fun i e => by
      have := HSD.out.gst.lay.al i dB e
      omega, fun e => by
      have := HSD.out.gst.lay.pl
      dsimp only at this
      omega⟩
    simp only [hw5, hdB]
    clear hw5 hdB hdb5 hgz5 d0 d1 d2
    have f2 := cell_of HDB5.out 2
    go_upto_if 28 with fail
    go_cut [30] from 29 to 30 (fun _ wx => ∃ A2, Hid (SdS B wx Z ⟨gb, pb, na2, nc2, oa2, oc2, va2, vc2, ra2, rc2⟩ g s.order C vs k A2 (if pr = true then st.map restN else st) oz ozc hs rs R) ∧ Hid (w.grownBy wx none) ∧ Hid (wx.heap[dB]? = some (.cells #[.slice ia K ic, .int .i64 pn, .bool pr] 34 (0, 0))))
    case first =>
      cases pr with
      | false =>
        go_wp2_with fail
        go_meet
        exact ⟨A, HSD5.out, HG5.out, HDB5.out⟩
      | true =>
        have RC := Lib.hid (rest_calls Z A ⟨gb, pb, na2, nc2, oa2, oc2, va2, vc2, ra2, rc2⟩ g s.order C vs st w5 HSD5.out.gst)
        go_wp2_with (go_at_call 14; refine (RC.out).mono ?_; rintro ez w6 ⟨rfl, A2, hgst, hf6, hA2⟩)
        go_meet
        refine ⟨A2, HSD5.out.rest hgst.out hf6.out hA2 (by
          have h1 := HG5.out.size
          have h2 := HB.out
          unfold Hid at h2
          omega), Fr.grown ((Fr.none HG5.out).trans hf6.out) (fun b hb => ?_), hf6.out.row HDB5.out (fun e => ?_)⟩
        · obtain ⟨i, e⟩ := hb
          have h1 := HSD5.out.ab i b e
          have h2 := HB.out
          unfold Hid at h2
          omega
        · obtain ⟨i, e⟩ := e
          exact HDBA.out.1 i e
    obtain ⟨A2, HSD6, HG6, HDB6⟩ := hcut
    obtain ⟨wd, hwd⟩ : ∃ wd : World, wd = wc := ⟨_, rfl⟩
    subst hwd
    clear HSD5 HG5 HDB5 HSD HGR HDBA f2
    obtain ⟨st2, hst2⟩ : ∃ st2, (if pr = true then st.map restN else st) = st2 := ⟨_, rfl⟩
    rw [hst2] at HSD6 HDR
    clear hst2
    have f0 := cell_of HDB6.out 0
    have f1 := cell_of HDB6.out 1
    have HI6 : Hid (∀ b, A0 b → b < wd.heap.size ∧ b ≠ pb ∧ ∀ i, ¬ A2 i b) := fun b hb => by
      have h1 := HA0.out b hb
      have h2 := HG6.out.size
      have h3 := HB.out
      unfold Hid at h3
      refine ⟨by omega, fun e => ?_, fun i e => ?_⟩
      · have := HSD6.out.pbB
        dsimp only at this
        omega
      · have := HSD6.out.ab i b e
        omega
    have RN : Hid (Calls Try.prog 15 #[.pointer (some ⟨gb, 0, none⟩), .slice ia K ic, .int .i64 pn] wd fun e w' => RunPost wd Z A2 ⟨gb, pb, na2, nc2, oa2, oc2, va2, vc2, ra2, rc2⟩ g s.order C vs (runG g s.order C st2 pins pn) e w') := by
      have h := run_calls Z A2 A0 ⟨gb, pb, na2, nc2, oa2, oc2, va2, vc2, ra2, rc2⟩ g s.order C vs st2 ia ic pins pn wd HSD6.out.gst (by rw [HK.out]; exact InsR.grown HIN.out HG6.out) HI6.out (by rw [HK.out]; exact hpx)
      rw [HK.out] at h
      exact h
    obtain ⟨RG, hRG⟩ : ∃ RG, runG g s.order C st2 pins pn = RG := ⟨_, rfl⟩
    rw [hRG] at RN HDR
    obtain ⟨⟨r1, re⟩, st3⟩ := RG
    clear hRG
    obtain ⟨j0, hj, hz0, hz1, hz2⟩ := info_parts info37
    go_upto_region 11 with (go_at_call 15; refine (RN.out).mono ?_; rintro ez w7 ⟨ov, rfl, hcl7, hgst7, hf7⟩)
    have HSD7 := Lib.hid (HSD6.out.run hgst7.out hf7.out)
    have HG7 : Hid (w.grownBy w7 none) := Fr.grown ((Fr.none HG6.out).trans hf7.out) (fun b hb => by
      have h2 := HB.out
      unfold Hid at h2
      rcases hb with ⟨i, e⟩ | e
      · have h1 := HSD6.out.ab i b e
        omega
      · have h1 := HSD6.out.pbB
        dsimp only at h1 e
        omega)
    have HCL7 := Lib.hid hcl7.out
    have HSZ : Hid (wd.heap.size ≤ w7.heap.size ∧ B ≤ wd.heap.size) := ⟨hf7.out.size, by
      have h1 := HG6.out.size
      have h2 := HB.out
      unfold Hid at h2
      omega⟩
    have HRN : Hid (∀ b, (wd.heap.size ≤ b ∧ b < w7.heap.size) → B ≤ b ∧ b < w7.heap.size ∧ (∀ i, ¬ A2 i b) ∧ b ≠ pb ∧ (Value.slice oz k ozc).ownBlock ≠ some b) := fun b hb => by
      have h2 := HSZ.out
      unfold Hid at h2
      refine ⟨by omega, hb.2, fun i e => ?_, fun e => ?_, fun e => ?_⟩
      · have := HSD6.out.gst.lay.al i b e
        omega
      · have := HSD6.out.gst.lay.pl
        dsimp only at this
        omega
      · have := (own_base HSD6.out.own e).2
        omega
    have HGA7 : ∀ o, Hid (w7.grownBy (w7.alloc o) none) := fun o => grown_alloc (grown_refl _ _) _
    clear hcl7 hgst7 hf7 HSD6 HG6 HDB6 HI6 RN f0 f1
    obtain ⟨oq, ocq, rfl⟩ := cll_open HCL7.out
    go_upto_region 12 with (at_builtin; refine wpList_append_own_at _ rfl _ _ 27 rfl B 37 j0 (.agg #[.slice none 0 0, .int .i64 0]) 2 32 Try.underlying27 hj hz0 hz1 hz2 rfl (by decide) (.slice oz k ozc) k (flC hdC hs) rfl (own_kept HSD7.out.own (HGA7 _).out) ⟨w7.heap.size, 0, none⟩ 1 1 [.slice oq r1.length ocq, .int .i64 re] rfl rfl (fun j u' hu => by rw [show ((⟨w7.heap.size, 0, none⟩ : Addr).add j) = ⟨w7.heap.size, 0 + j, none⟩ from Addr.add_lit _ _ _, Nat.zero_add, cell_of (heap_alloc_new _ _), ← Array.getElem?_toList]; exact hu) (by simp [Value.oneCell']) (by unfold maxLen; omega) (by omega) (by have h := HSZ.out; unfold Hid at h; have h2 := (HGA7 (.cells #[.slice oq r1.length ocq, .int .i64 re] 37)).out.size; omega) ?_; intro v11 w11 ho11 hg11 _ hb11; obtain ⟨oa3, oc3, rfl⟩ := own_slice ho11; have HO11 := Lib.hid ho11; have HG11 := Lib.hid hg11; have HB11 := Lib.hid hb11; clear ho11 hg11 hb11)
    have HGN : Hid (w.grownBy w11 none) := grown_own (grown_trans HG7.out (HGA7 _).out) (own_kept HSD7.out.own (HGA7 _).out) (by have h := HB.out; unfold Hid at h; omega) HG11.out
    have HFIN : Hid (SdS B w11 Z ⟨gb, pb, na2, nc2, oa2, oc2, va2, vc2, ra2, rc2⟩ g s.order C vs (k + 1) A2 st3 oa3 oc3 (hs ++ [(.slice oq r1.length ocq, re)]) (rs ++ [(r1, re)]) (fun b => R b ∨ (wd.heap.size ≤ b ∧ b < w7.heap.size))) :=
      (HSD7.out.grown (HGA7 _).out).push HO11.out HG11.out HB11.out rfl (HCL7.out.grown (HGA7 _).out) (fun b hb => by
        obtain ⟨h1, h2, h3⟩ := HRN.out b hb
        exact ⟨h1, Nat.lt_of_lt_of_le h2 (HGA7 _).out.size, h3⟩)
    have HEQ2 : Hid (soundG g s.order C ST pieces = (rs ++ [(r1, re)]) ++ soundG g s.order C st3 (pieces.drop (k + 1))) := by
      unfold Hid
      rw [HEQ.out, HDR.out, List.append_assoc]
      rfl
    clear HCL7 HRN HSD7 HG7 HO11 HG11 HB11 HDR HEQ
    go_wp2_with fail
    refine ⟨?_, by simp [intOf]; omega⟩
    first
      | exact ⟨k + 1, A2, st3, oa3, oc3, _, _, _, by omega, rfl, rfl, HFIN.out, HGN.out, HEQ2.out⟩
      | (repeat apply Exists.intro
         refine ⟨?_, rfl⟩
         exact ⟨k + 1, A2, st3, oa3, oc3, _, _, _, by omega, rfl, rfl, HFIN.out, HGN.out, HEQ2.out⟩)
end Go.Proofs.Ytdliilmnfbgplaa.GSound

/- A closed fact: a graph of one constant is heard. -/
namespace Go.Proofs.Ytdliilmnfbgplaa.GAlive
open Go Go.RowKit Go.Proofs.Ytdliilmnfbgplaa.GPiece Go.Proofs.Ytdliilmnfbgplaa.Fl Go.Proofs.Ytdliilmnfbgplaa.Fw Go.Proofs.Ytdliilmnfbgplaa.GRd Go.Proofs.Ytdliilmnfbgplaa.GCells Go.Proofs.Ytdliilmnfbgplaa.GStep Go.Proofs.Ytdliilmnfbgplaa.GMod Go.Proofs.Ytdliilmnfbgplaa.GOrd Go.Proofs.Ytdliilmnfbgplaa.GMem Go.Proofs.Ytdliilmnfbgplaa.GNode Go.Proofs.Ytdliilmnfbgplaa.GNode2 Go.Proofs.Ytdliilmnfbgplaa.GNode4 Go.Proofs.Ytdliilmnfbgplaa.GPMem Go.Proofs.Ytdliilmnfbgplaa.GPState Go.Proofs.Ytdliilmnfbgplaa.GOuts Go.Proofs.Ytdliilmnfbgplaa.GSub Go.Proofs.Ytdliilmnfbgplaa.GRun Go.Proofs.Ytdliilmnfbgplaa.GRest Go.Proofs.Ytdliilmnfbgplaa.GMade Go.Proofs.Ytdliilmnfbgplaa.GClone Go.Proofs.Ytdliilmnfbgplaa.GSort1 Go.Proofs.Ytdliilmnfbgplaa.GSort Go.Proofs.Ytdliilmnfbgplaa.GNewS Go.Proofs.Ytdliilmnfbgplaa.GNew Go.Proofs.Ytdliilmnfbgplaa.GSoundS Go.Proofs.Ytdliilmnfbgplaa.GSound Go.Proofs.Ytdliilmnfbgplaa.Hp Go.Proofs.Ytdliilmnfbgplaa.Rd Go.Proofs.Ytdliilmnfbgplaa.Opn
set_option linter.unusedVariables false
set_option linter.unusedSimpArgs false

def x0 : Nd := ⟨2, [], 0, 4611686018427387904, ⟨0, 0, 0, 0, 0⟩, ⟨0, 0, 0, 0, 0, 0, 0⟩⟩
def g0 : Gd := ⟨0, [x0], [0]⟩
def p0 : Pc := ⟨[], 1, false⟩
theorem pre0 : preE g0 = 0 := by decide
theorem ask0 : asks g0 0 = [] := rfl
theorem vis0 {b : Bool} {s : Sr} (h : Vis g0 (s0 1) (.inr (List.range 1)) b s) : b = true ∧ s.order = [0] := by
  have hr : List.range 1 = [0] := rfl
  rw [hr] at h
  have key : ∀ {b : Bool} {s : Sr}, Vis g0 (s0 1) (.inl 0) b s → b = true ∧ s.order = [0] := by
    intro b s h
    cases h with
    | seen h => exact absurd h (by decide)
    | ok h1 h2 h3 =>
      rw [ask0] at h3
      cases h3
      exact ⟨rfl, rfl⟩
    | bad h1 h2 h3 =>
      rw [ask0] at h3
      cases h3
  cases h with
  | cons h1 h2 =>
    cases h2
    exact ⟨rfl, (key h1).2⟩
  | stop h1 => exact absurd (key h1).1 (by decide)
theorem sound0 : soundG g0 [0] (chunkK g0.nodes) (g0.nodes.map GMod.start) [p0] = [([[4611686018427387904]], 0)] := by decide +kernel
theorem cn_two {y : Nat} (h : cn y = 4611686018427387904) : y = 4611686018427387904 := by
  unfold cn at h
  split at h
  · cases h
  · exact h
/-- A block that is known whole reads. -/
theorem sla_whole {α : Type} {s : Nat} {C : α → List Value} (hC : ∀ x, (C x).length = s) {w : World} {A : Nat → Prop} {b cap : Nat} {e : TypeId} {z : Nat × Nat} {xs : List α} (h : w.heap[b]? = some (.cells (flC C xs).toArray e z)) (hA : A b) : SlA s C w A (.slice (some ⟨b, 0, none⟩) xs.length cap) xs :=
  .inl ⟨b, 0, cap, hA, rfl, fun i x hx j u hu => by
    have hj : j < s := by
      have := (List.getElem?_eq_some_iff.1 hu).1
      rw [hC] at this
      exact this
    rw [Nat.zero_add, cell_of h, List.getElem?_toArray, flC_get hC xs i x hx j hj]
    exact hu⟩

theorem hds_open {w : World} {A : Nat → Prop} {v : Value} {rs : List (List (List Nat) × Int)} (h : HdsR w A v rs) : ∃ ao c, v = .slice ao rs.length c := by
  obtain ⟨hs, h1, h2, _⟩ := h
  obtain ⟨ao, c, e⟩ := sla_open h2
  exact ⟨ao, c, by rw [e, h1]⟩
theorem hds_at {w : World} {A : Nat → Prop} {ao : Option Addr} {n c : Nat} {rs : List (List (List Nat) × Int)} (h : HdsR w A (.slice ao n c) rs) {i : Nat} {r : List (List Nat) × Int} (hr : rs[i]? = some r) :
    ∃ b off oa oc, ao = some ⟨b, off, none⟩ ∧ w.cell? ⟨b, off + i * 2, none⟩ = some (.slice oa r.1.length oc) ∧ w.cell? ⟨b, off + i * 2 + 1, none⟩ = some (.int .i64 r.2) ∧ CLl w A (.slice oa r.1.length oc) r.1 := by
  obtain ⟨hs, h1, h2, h3⟩ := h
  obtain ⟨p, hp⟩ : ∃ p, hs[i]? = some p := ⟨hs[i]'(by rw [h1]; exact (List.getElem?_eq_some_iff.1 hr).1), List.getElem?_eq_getElem _⟩
  obtain ⟨b, off, rfl, _, hrg⟩ := sla_at h2 hp
  obtain ⟨e1, e2⟩ := h3 i p r hp hr
  obtain ⟨u, e⟩ := p
  obtain ⟨oa, oc, e3⟩ := cll_open e2
  replace e3 : u = .slice oa r.1.length oc := e3
  subst e3
  replace e1 : e = r.2 := e1
  subst e1
  exact ⟨b, off, oa, oc, rfl, hrg 0 _ rfl, hrg 1 _ rfl, e2⟩

def nd0 : List Value := [.int .i64 2, .slice none 0 0, .int .i64 0, .float .f64 4611686018427387904, .float .f64 0, .float .f64 0, .float .f64 0, .float .f64 0, .float .f64 0, .int .i64 0, .int .u32 0, .float .f64 0, .int .i64 0, .int .i64 0, .int .i64 0, .int .i64 0]
set_option maxHeartbeats 1000000 in
set_option maxRecDepth 100000 in
theorem alive_calls (w : World) : Calls Try.prog 12 #[] w fun e w' => e = .returned (.bool true) ∧ Hid (w.grownBy w' none) := by
  have hg3 : w.grownBy (((w.alloc (.cells nd0.toArray 53)).alloc (.cells #[.int .i64 0] 3)).alloc (.cells #[.slice none 0 0, .int .i64 1, .bool false] 34)) none := grown_alloc (grown_alloc (grown_alloc (grown_refl _ _) _) _) _
  have hb0 : (((w.alloc (.cells nd0.toArray 53)).alloc (.cells #[.int .i64 0] 3)).alloc (.cells #[.slice none 0 0, .int .i64 1, .bool false] 34)).heap[w.heap.size]? = some (.cells nd0.toArray 53 (0, 0)) := row_kept (grown_alloc (grown_refl _ none) _) (alloc2_old _ _ _) (by simp)
  have hb1 : (((w.alloc (.cells nd0.toArray 53)).alloc (.cells #[.int .i64 0] 3)).alloc (.cells #[.slice none 0 0, .int .i64 1, .bool false] 34)).heap[w.heap.size + 1]? = some (.cells #[.int .i64 0] 3 (0, 0)) := row_kept (grown_alloc (grown_refl _ none) _) (alloc2_new _ _ _) (by simp)
  have hb2 : (((w.alloc (.cells nd0.toArray 53)).alloc (.cells #[.int .i64 0] 3)).alloc (.cells #[.slice none 0 0, .int .i64 1, .bool false] 34)).heap[w.heap.size + 2]? = some (.cells #[.slice none 0 0, .int .i64 1, .bool false] 34 (0, 0)) := by
    have h := alloc2_new (w.alloc (.cells nd0.toArray 53)) (.cells #[.int .i64 0] 3) (.cells #[.slice none 0 0, .int .i64 1, .bool false] 34)
    have e : (w.alloc (.cells nd0.toArray 53)).heap.size = w.heap.size + 1 := by simp
    rw [e] at h
    exact h
  have hsz : (((w.alloc (.cells nd0.toArray 53)).alloc (.cells #[.int .i64 0] 3)).alloc (.cells #[.slice none 0 0, .int .i64 1, .bool false] 34)).heap.size = w.heap.size + 3 := by simp
  have SC := Lib.hid (sound_calls (fun b => b < w.heap.size + 3) g0 (some ⟨w.heap.size, 0, none⟩) (some ⟨w.heap.size + 1, 0, none⟩) 1 1 (some ⟨w.heap.size + 2, 0, none⟩) 1 [p0] _
    ⟨[(x0, .slice none 0 0)], rfl, sla_whole ndC_len (xs := [(x0, .slice none 0 0)]) hb0 (by omega), fun p hp => by simp at hp; subst hp; exact .inr ⟨none, 0, rfl, rfl⟩⟩
    (sla_whole iC_len (xs := [0]) hb1 (by omega)) (fun x hx => by simp [g0] at hx; subst hx; exact ⟨by decide, by decide⟩)
    ⟨[(p0, .slice none 0 0)], rfl, sla_whole pcC_len (xs := [(p0, .slice none 0 0)]) hb2 (by omega), fun p hp => by simp at hp; subst hp; exact ⟨[], rfl, .inr ⟨none, 0, rfl, rfl⟩, fun i u l h => by simp at h⟩⟩
    (fun b hb => by rw [hsz]; exact hb) (fun p hp => by simp at hp; subst hp; exact Nat.zero_le _) (by decide))
  have HG3 := Lib.hid hg3
  unfold gdV nd0 at SC
  unfold nd0 at HG3
  clear hg3 hb0 hb1 hb2 hsz
  go_enter Try.func12, Try.ntmps12
  go_upto_region 2 with (go_at_call 7; refine (SC.out).mono ?_; rintro ez w4 ⟨hg4, ⟨hp, rfl⟩ | ⟨hp, s, hv, rfl⟩ | ⟨hp, s, ov, hv, rfl, hhd⟩⟩)
  · exact absurd pre0 hp
  · exact absurd (vis0 hv.out).1 (by decide)
  have hh := hhd.out
  rw [(vis0 hv.out).2, sound0] at hh
  obtain ⟨ao, c, rfl⟩ := hds_open hh
  obtain ⟨b1, o1, oa, oc, rfl, c0, c1, hcl⟩ := hds_at hh (i := 0) rfl
  obtain ⟨b2, o2, ro, rc, rfl, _, c2, hfl⟩ := cll_at hcl (i := 0) rfl
  obtain ⟨b3, o3, y, rfl, _, c3, hy⟩ := cfl_at hfl (i := 0) rfl
  have hy := cn_two hy
  subst hy
  simp only [List.length_cons, List.length_nil, Nat.zero_mul, Nat.add_zero, Nat.zero_add] at c0 c1 c2 c3 ⊢
  have HGF : Hid (w.grownBy w4 none) := grown_trans HG3.out hg4.out
  have hcmp : (FloatKind.f64.format.order 4611686018427387904 4611686018427387904 == some .eq) = true := by decide +kernel
  clear hh hcl hfl hhd hv hp hg4 SC
  go_wp2_with fail
  go_ret
  exact ⟨by rfl, HGF.out⟩
end Go.Proofs.Ytdliilmnfbgplaa.GAlive
