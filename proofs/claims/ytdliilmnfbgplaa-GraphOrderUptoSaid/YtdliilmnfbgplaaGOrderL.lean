/- In whatever order the nodes stand, the same is heard: the law's walk. -/
import Derived.Test.YtdliilmnfbgplaaGM8
import Derived.Test.YtdliilmnfbgplaaGM9
import Derived.Test.YtdliilmnfbgplaaGOrderP
import Derived.Test.YtdliilmnfbgplaaGBlocksL
namespace Go.Proofs.Ytdliilmnfbgplaa.GOrderL
open Go Go.RowKit Go.Proofs.Ytdliilmnfbgplaa.GPiece Go.Proofs.Ytdliilmnfbgplaa.Fl Go.Proofs.Ytdliilmnfbgplaa.Fw Go.Proofs.Ytdliilmnfbgplaa.GRd Go.Proofs.Ytdliilmnfbgplaa.GCells Go.Proofs.Ytdliilmnfbgplaa.GStep Go.Proofs.Ytdliilmnfbgplaa.GMod Go.Proofs.Ytdliilmnfbgplaa.GOrd Go.Proofs.Ytdliilmnfbgplaa.GMem Go.Proofs.Ytdliilmnfbgplaa.GNode Go.Proofs.Ytdliilmnfbgplaa.GPMem Go.Proofs.Ytdliilmnfbgplaa.GPState Go.Proofs.Ytdliilmnfbgplaa.GOuts Go.Proofs.Ytdliilmnfbgplaa.GSub Go.Proofs.Ytdliilmnfbgplaa.GRun Go.Proofs.Ytdliilmnfbgplaa.GMade Go.Proofs.Ytdliilmnfbgplaa.GSort1 Go.Proofs.Ytdliilmnfbgplaa.GSort Go.Proofs.Ytdliilmnfbgplaa.GNewS Go.Proofs.Ytdliilmnfbgplaa.GNew Go.Proofs.Ytdliilmnfbgplaa.GSoundS Go.Proofs.Ytdliilmnfbgplaa.GSound Go.Proofs.Ytdliilmnfbgplaa.GAlive Go.Proofs.Ytdliilmnfbgplaa.GClone Go.Proofs.Ytdliilmnfbgplaa.GRestsP Go.Proofs.Ytdliilmnfbgplaa.GRestsL Go.Proofs.Ytdliilmnfbgplaa.GSol Go.Proofs.Ytdliilmnfbgplaa.GSplit Go.Proofs.Ytdliilmnfbgplaa.GSteps Go.Proofs.Ytdliilmnfbgplaa.GStart Go.Proofs.Ytdliilmnfbgplaa.GBlocksL Go.Proofs.Ytdliilmnfbgplaa.GOrderP Go.Proofs.Ytdliilmnfbgplaa.Hp Go.Proofs.Ytdliilmnfbgplaa.Rd Go.Proofs.Ytdliilmnfbgplaa.Opn
set_option linter.unusedVariables false
set_option linter.unusedSimpArgs false

/-! ### where each stands -/
structure ToI (C : Nat) (l : List Int) (tl : List Nat) (sn : List Bool) : Prop where
  tlen : tl.length = C
  slen : sn.length = C
  rng : ∀ x ∈ l, 0 ≤ x ∧ x < (C : Int)
  nd : (l.map Int.toNat).Nodup
  seen : ∀ j : Nat, sn.getD j false = true ↔ j ∈ l.map Int.toNat
  at_ : ∀ (i : Nat) (x : Int), l[i]? = some x → tl.getD x.toNat 0 = i
theorem ToI.zero (C : Nat) : ToI C [] (List.replicate C 0) (List.replicate C false) :=
  ⟨by simp, by simp, fun x hx => by simp at hx, by simp, fun j => by rw [List.getD_eq_getElem?_getD, List.getElem?_replicate]; split <;> simp, fun i x hx => by simp at hx⟩
theorem ToI.next {C : Nat} {l : List Int} {tl : List Nat} {sn : List Bool} (h : ToI C l tl sn) {x : Int} (hx : 0 ≤ x ∧ x < (C : Int)) (hs : sn.getD x.toNat false = false) : ToI C (l ++ [x]) (tl.set x.toNat l.length) (sn.set x.toNat true) := by
  have hni : x.toNat ∉ l.map Int.toNat := fun e => by rw [(h.seen _).2 e] at hs; cases hs
  refine ⟨by rw [List.length_set, h.tlen], by rw [List.length_set, h.slen], fun y hy => ?_, ?_, fun j => ?_, fun i y hy => ?_⟩
  · rw [List.mem_append, List.mem_singleton] at hy
    rcases hy with hy | rfl
    · exact h.rng y hy
    · exact hx
  · rw [List.map_append, List.nodup_append]
    refine ⟨h.nd, by simp, fun a ha b hb => ?_⟩
    simp only [List.map_cons, List.map_nil, List.mem_singleton] at hb
    rintro rfl
    exact hni (hb ▸ ha)
  · rw [List.getD_eq_getElem?_getD, List.map_append, List.mem_append, List.map_cons, List.map_nil, List.mem_singleton]
    by_cases e : x.toNat = j
    · subst e
      rw [List.getElem?_set_self (by rw [h.slen]; omega)]
      simp
    · rw [List.getElem?_set_ne e, ← List.getD_eq_getElem?_getD, h.seen]
      constructor
      · exact .inl
      · rintro (h1 | h1)
        · exact h1
        · exact absurd h1.symm e
  · rcases Nat.lt_or_ge i l.length with hi | hi
    · rw [List.getElem?_append_left hi] at hy
      have : x.toNat ≠ y.toNat := fun e => hni (List.mem_map.2 ⟨y, List.mem_of_getElem? hy, e.symm⟩)
      rw [List.getD_eq_getElem?_getD, List.getElem?_set_ne this, ← List.getD_eq_getElem?_getD, h.at_ i y hy]
    · rw [List.getElem?_append_right hi] at hy
      have hi2 : i - l.length = 0 := by have := (List.getElem?_eq_some_iff.1 hy).1; simpa using this
      rw [hi2] at hy
      simp at hy
      subst hy
      rw [List.getD_eq_getElem?_getD, List.getElem?_set_self (by rw [h.tlen]; omega)]
      simp
      omega
theorem ToI.prm {C : Nat} {l : List Int} {tl : List Nat} {sn : List Bool} (h : ToI C l tl sn) (hl : l.length = C) : Prm C (l.map Int.toNat) tl := by
  have hr : ∀ x ∈ l.map Int.toNat, x < C := fun x hx => by
    rw [List.mem_map] at hx
    obtain ⟨y, hy, rfl⟩ := hx
    have := h.rng y hy
    omega
  have key : ∀ k, k < C → (l.map Int.toNat).getD k 0 < C ∧ tl.getD ((l.map Int.toNat).getD k 0) 0 = k := fun k hk => by
    have hkl : k < l.length := by omega
    have e : (l.map Int.toNat).getD k 0 = l[k].toNat := by rw [List.getD_eq_getElem?_getD, List.getElem?_map, List.getElem?_eq_getElem hkl]; rfl
    rw [e]
    have := h.rng l[k] (List.getElem_mem _)
    exact ⟨by omega, h.at_ k _ (List.getElem?_eq_getElem hkl)⟩
  refine ⟨by rw [List.length_map, hl], h.tlen, key, fun i hi => ?_⟩
  have hm := all_mem h.nd hr (by rw [List.length_map, hl]) i hi
  obtain ⟨k, hk⟩ := List.mem_iff_getElem?.1 hm
  have hkl := (List.getElem?_eq_some_iff.1 hk).1
  rw [List.length_map, hl] at hkl
  have e : (l.map Int.toNat).getD k 0 = i := by rw [List.getD_eq_getElem?_getD, hk]; rfl
  have := key k hkl
  rw [e] at this
  rw [this.2]
  exact ⟨hkl, e⟩

/-- .. in memory. -/
structure ToS (W wr : World) (tB sB C : Nat) (l : List Int) (tl : List Nat) (sn : List Bool) : Prop where
  tr : wr.heap[tB]? = some (.cells (tl.map fun k : Nat => Value.int .i64 (k : Int)).toArray 3 (0, 0))
  sr : wr.heap[sB]? = some (.cells (sn.map Value.bool).toArray 4 (0, 0))
  i : ToI C l tl sn
  gr : W.grownBy wr none
theorem ToS.grown {W wr w2 : World} {tB sB C : Nat} {l : List Int} {tl : List Nat} {sn : List Bool} (h : ToS W wr tB sB C l tl sn) (hg : wr.grownBy w2 none) : ToS W w2 tB sB C l tl sn :=
  ⟨row_kept hg h.tr (by simp), row_kept hg h.sr (by simp), h.i, grown_trans h.gr hg⟩
theorem ToS.next {W wr : World} {tB sB C : Nat} {l : List Int} {tl : List Nat} {sn : List Bool} (h : ToS W wr tB sB C l tl sn) (hne : sB ≠ tB) (ht : W.heap.size ≤ tB) (hs : W.heap.size ≤ sB) {x : Int} (hx : 0 ≤ x ∧ x < (C : Int)) (hsn : sn.getD x.toNat false = false) :
    ToS W ((wr.setCell ⟨sB, x.toNat, none⟩ (.bool true)).setCell ⟨tB, x.toNat, none⟩ (.int .i64 (l.length : Int))) tB sB C (l ++ [x]) (tl.set x.toNat l.length) (sn.set x.toNat true) := by
  have hf1 : Fr (fun b => b = sB) wr (wr.setCell ⟨sB, x.toNat, none⟩ (.bool true)) := fr_set (X := fun b => b = sB) (p := ⟨sB, x.toNat, none⟩) (Fr.refl _ _) (.inl rfl) _
  have hf2 : Fr (fun b => b = tB) (wr.setCell ⟨sB, x.toNat, none⟩ (.bool true)) ((wr.setCell ⟨sB, x.toNat, none⟩ (.bool true)).setCell ⟨tB, x.toNat, none⟩ (.int .i64 (l.length : Int))) := fr_set (X := fun b => b = tB) (p := ⟨tB, x.toNat, none⟩) (Fr.refl _ _) (.inl rfl) _
  refine ⟨?_, hf2.row ?_ hne, h.i.next hx hsn, ?_⟩
  · rw [set_self (hf1.row h.tr (fun e => hne e.symm)), List.setIfInBounds_toArray, List.map_set]
  · rw [set_self h.sr, List.setIfInBounds_toArray, List.map_set]
  · exact grown_set (p := ⟨tB, x.toNat, none⟩) (grown_set (p := ⟨sB, x.toNat, none⟩) h.gr (.inr hs) _) (.inr ht) _
theorem seen_at {w : World} {sB : Nat} {sn : List Bool} (h : w.heap[sB]? = some (.cells (sn.map Value.bool).toArray 4 (0, 0))) {i : Nat} (hi : i < sn.length) : w.cell? ⟨sB, i, none⟩ = some (.bool (sn.getD i false)) := by
  rw [cell_of h]
  simp only [List.getElem?_toArray, List.getElem?_map]
  rw [List.getD_eq_getElem?_getD, List.getElem?_eq_getElem hi]
  rfl
theorem info4 : (Try.prog.info? 4).map (fun i => (i.zero, i.size, i.bytes)) = some (some (.bool false), 1, 1) := by kernel_rfl

/-- The nodes in their new order, as they are laid out. -/
structure OrS (B : Nat) (W wr : World) (hB : Nat) (ins : Int) (k : Nat) (ha : Option Addr) (hc : Nat) (ps : List (Nd × Value)) (xs : List Nd) (Q : Nat → Prop) : Prop where
  row : wr.heap[hB]? = some (.cells #[.int .i64 ins, .slice ha k hc, .slice none 0 0] 25 (0, 0))
  own : wr.ownsRow B 53 16 (.slice ha k hc) k (flC ndC ps)
  pl : ps.length = k
  pm : ps.map Prod.fst = xs
  fs : ∀ p ∈ ps, SlA 1 iC wr Q p.2 p.1.from_
  q : ∀ b, Q b → b < wr.heap.size ∧ b ≠ hB ∧ (Value.slice ha k hc).ownBlock ≠ some b
  hb : hB < B
  gr : W.grownBy wr none
  hW : W.heap.size ≤ hB
section
variable {B : Nat} {W wr w2 : World} {hB : Nat} {ins : Int} {k : Nat} {ha : Option Addr} {hc : Nat} {ps : List (Nd × Value)} {xs : List Nd} {Q : Nat → Prop}
theorem OrS.grown (h : OrS B W wr hB ins k ha hc ps xs Q) (hg : wr.grownBy w2 none) : OrS B W w2 hB ins k ha hc ps xs Q :=
  ⟨row_kept hg h.row (by simp), own_kept h.own hg, h.pl, h.pm, fun p hp => (h.fs p hp).grown hg, fun b hb => ⟨Nat.lt_of_lt_of_le (h.q b hb).1 hg.size, (h.q b hb).2⟩, h.hb, grown_trans h.gr hg, h.hW⟩
theorem OrS.push (h : OrS B W wr hB ins k ha hc ps xs Q) {x : Nd} {f : Value} {ha2 : Option Addr} {hc2 : Nat} {Qn : Nat → Prop} (ho : w2.ownsRow B 53 16 (.slice ha2 (k + 1) hc2) (k + 1) (flC ndC ps ++ ndC (x, f))) (hg : wr.grownBy w2 (Value.slice ha k hc).ownBlock)
    (hat : (Value.slice ha2 (k + 1) hc2).ownBlock = (Value.slice ha k hc).ownBlock ∨ (Value.slice ha2 (k + 1) hc2).ownBlock = some wr.heap.size) (hf : SlA 1 iC wr Qn f x.from_) (hq : ∀ b, Qn b → b < wr.heap.size ∧ b ≠ hB ∧ (Value.slice ha k hc).ownBlock ≠ some b) :
    OrS B W (w2.setCell ⟨hB, 1, none⟩ (.slice ha2 (k + 1) hc2)) hB ins (k + 1) ha2 hc2 (ps ++ [(x, f)]) (xs ++ [x]) (fun b => Q b ∨ Qn b) := by
  have hownB : ∀ b, (Value.slice ha k hc).ownBlock = some b → B ≤ b := fun b hb => (own_base h.own hb).1
  have hhb := h.hb
  have hrow := row_kept hg h.row (fun e => by have := hownB _ e.symm; omega)
  have hf1 : Fr (fun b => (Value.slice ha k hc).ownBlock = some b) wr w2 := .of hg (fun i e => e)
  have hf2 : Fr (fun b => b = hB) w2 (w2.setCell ⟨hB, 1, none⟩ (.slice ha2 (k + 1) hc2)) := fr_set (X := fun b => b = hB) (p := ⟨hB, 1, none⟩) (Fr.refl _ _) (.inl rfl) _
  have hsz := hf1.size
  have hsz2 := hf2.size
  have hnew : ∀ b, (b < wr.heap.size ∧ b ≠ hB ∧ (Value.slice ha k hc).ownBlock ≠ some b) → b < (w2.setCell ⟨hB, 1, none⟩ (.slice ha2 (k + 1) hc2)).heap.size ∧ b ≠ hB ∧ (Value.slice ha2 (k + 1) hc2).ownBlock ≠ some b := fun b ⟨h1, h2, h3⟩ => ⟨by omega, h2, fun e => by
    rcases hat with e2 | e2
    · rw [e2] at e
      exact h3 e
    · rw [e2] at e
      injection e with e
      omega⟩
  refine ⟨?_, ?_, by rw [List.length_append, h.pl]; rfl, by rw [List.map_append, h.pm]; rfl, fun p hp => ?_, fun b hb => ?_, hhb, ?_, h.hW⟩
  · rw [set_self hrow]
    rfl
  · rw [flC_append]
    have e : flC ndC [(x, f)] = ndC (x, f) := by simp [flC]
    rw [e]
    exact own_fr ho hf2 (fun b hb e => by
      have := (own_base ho hb).1
      omega)
  · rw [List.mem_append, List.mem_singleton] at hp
    rcases hp with hp | rfl
    · exact (((h.fs p hp).fr hf1 (fun b hb e => (h.q b hb).2.2 e)).fr hf2 (fun b hb e => (h.q b hb).2.1 e)).mono (fun b => .inl)
    · exact ((hf.fr hf1 (fun b hb e => (hq b hb).2.2 e)).fr hf2 (fun b hb e => (hq b hb).2.1 e)).mono (fun b => .inr)
  · rcases hb with hb | hb
    · exact hnew b (h.q b hb)
    · exact hnew b (hq b hb)
  · exact grown_set (p := ⟨hB, 1, none⟩) (grown_own h.gr h.own (by have := h.hW; omega) hg) (.inr h.hW) _
theorem OrS.reads (h : OrS B W wr hB ins k ha hc ps xs Q) : NdsR wr (fun b => b < wr.heap.size) (.slice ha k hc) xs :=
  ⟨ps, h.pm, sla_of_own ndC_len (xs := ps) (by rw [h.pl]; exact h.own) _ (fun b hb => (own_base h.own hb).2), fun p hp => (h.fs p hp).mono (fun b hb => (h.q b hb).1)⟩
end

/-- One node, and what it listens to so far. -/
structure FmS (wx wr : World) (xB : Nat) (x : Nd) (tl : List Nat) (q : Nat) (fa : Option Addr) (fc : Nat) : Prop where
  row : wr.heap[xB]? = some (.cells (ndC (x, .slice fa q fc)).toArray 53 (0, 0))
  own : wr.ownsRow (xB + 1) 3 1 (.slice fa q fc) q (flC iC ((x.from_.take q).map (mvR tl)))
  gr : wx.grownBy wr none
  lt : wx.heap.size ≤ xB
theorem FmS.grown {wx wr w2 : World} {xB : Nat} {x : Nd} {tl : List Nat} {q : Nat} {fa : Option Addr} {fc : Nat} (h : FmS wx wr xB x tl q fa fc) (hg : wr.grownBy w2 none) : FmS wx w2 xB x tl q fa fc :=
  ⟨row_kept hg h.row (by simp), own_kept h.own hg, grown_trans h.gr hg, h.lt⟩
theorem FmS.push {wx wr w2 : World} {xB : Nat} {x : Nd} {tl : List Nat} {q : Nat} {fa : Option Addr} {fc : Nat} (h : FmS wx wr xB x tl q fa fc) {k : Int} (hk : x.from_[q]? = some k) {g9 cap : Nat} (ho : w2.ownsRow (xB + 1) 3 1 (.slice (some ⟨g9, 0, none⟩) (q + 1) cap) (q + 1) (flC iC ((x.from_.take q).map (mvR tl)) ++ [.int .i64 (mvR tl k)])) (hg : wr.grownBy w2 (Value.slice fa q fc).ownBlock) :
    FmS wx (w2.setCell ⟨xB, 1, none⟩ (.slice (some ⟨g9, 0, none⟩) (q + 1) cap)) xB x tl (q + 1) (some ⟨g9, 0, none⟩) cap := by
  have hrow := row_kept hg h.row (fun e => by have := (own_base h.own e.symm).1; omega)
  have hf2 : Fr (fun b => b = xB) w2 (w2.setCell ⟨xB, 1, none⟩ (.slice (some ⟨g9, 0, none⟩) (q + 1) cap)) := fr_set (X := fun b => b = xB) (p := ⟨xB, 1, none⟩) (Fr.refl _ _) (.inl rfl) _
  have hlt := h.lt
  refine ⟨?_, ?_, grown_set (p := ⟨xB, 1, none⟩) (grown_own h.gr h.own (by omega) hg) (.inr hlt) _, hlt⟩
  · rw [set_self hrow]
    rfl
  · rw [take_next hk, List.map_append, flC_append]
    have e : flC iC ([k].map (mvR tl)) = [.int .i64 (mvR tl k)] := rfl
    rw [e]
    exact own_fr ho hf2 (fun b hb e => by have := (own_base ho hb).1; omega)

/-- What goes out, in its new order, as it is laid out. -/
structure UtS (wx wr : World) (hB : Nat) (ins : Int) (C : Nat) (ha : Option Addr) (hc : Nat) (tl : List Nat) (xs : List Int) (q : Nat) (ua : Option Addr) (uc : Nat) : Prop where
  row : wr.heap[hB]? = some (.cells #[.int .i64 ins, .slice ha C hc, .slice ua q uc] 25 (0, 0))
  own : wr.ownsRow wx.heap.size 3 1 (.slice ua q uc) q (flC iC ((xs.take q).map (mvR tl)))
  fr : Fr (fun b => b = hB) wx wr
  lt : hB < wx.heap.size
theorem UtS.push {wx wr w2 : World} {hB : Nat} {ins : Int} {C : Nat} {ha : Option Addr} {hc : Nat} {tl : List Nat} {xs : List Int} {q : Nat} {ua : Option Addr} {uc : Nat} (h : UtS wx wr hB ins C ha hc tl xs q ua uc) {k : Int} (hk : xs[q]? = some k) {g9 cap : Nat} (ho : w2.ownsRow wx.heap.size 3 1 (.slice (some ⟨g9, 0, none⟩) (q + 1) cap) (q + 1) (flC iC ((xs.take q).map (mvR tl)) ++ [.int .i64 (mvR tl k)])) (hg : wr.grownBy w2 (Value.slice ua q uc).ownBlock) :
    UtS wx (w2.setCell ⟨hB, 2, none⟩ (.slice (some ⟨g9, 0, none⟩) (q + 1) cap)) hB ins C ha hc tl xs (q + 1) (some ⟨g9, 0, none⟩) cap := by
  have hlt := h.lt
  have hrow := row_kept hg h.row (fun e => by have := (own_base h.own e.symm).1; omega)
  have hf1 : Fr (fun b => (Value.slice ua q uc).ownBlock = some b) wr w2 := .of hg (fun i e => e)
  have hf2 : Fr (fun b => b = hB) w2 (w2.setCell ⟨hB, 2, none⟩ (.slice (some ⟨g9, 0, none⟩) (q + 1) cap)) := fr_set (X := fun b => b = hB) (p := ⟨hB, 2, none⟩) (Fr.refl _ _) (.inl rfl) _
  refine ⟨?_, ?_, fr_trans2 (fr_trans2 h.fr hf1 (fun b hb => .inr (own_base h.own hb).1)) hf2 (fun b hb => .inl hb), hlt⟩
  · rw [set_self hrow]
    rfl
  · rw [take_next hk, List.map_append, flC_append]
    have e : flC iC ([k].map (mvR tl)) = [.int .i64 (mvR tl k)] := rfl
    rw [e]
    exact own_fr ho hf2 (fun b hb e => by have := (own_base ho hb).1; omega)
theorem OrS.later {B : Nat} {W wr w2 : World} {hB : Nat} {ins : Int} {k : Nat} {ha : Option Addr} {hc : Nat} {ps : List (Nd × Value)} {xs : List Nd} {Q : Nat → Prop} (h : OrS B W wr hB ins k ha hc ps xs Q) (hf : Fr (fun b => b = hB) wr w2) : NdsR w2 (fun b => b < w2.heap.size) (.slice ha k hc) xs ∧ W.grownBy w2 none :=
  ⟨⟨ps, h.pm, sla_of_own ndC_len (xs := ps) (by rw [h.pl]; exact own_fr h.own hf (fun b hb e => by have := (own_base h.own hb).1; have := h.hb; omega)) _ (fun b hb => Nat.lt_of_lt_of_le (own_base h.own hb).2 hf.size),
    fun p hp => ((h.fs p hp).fr hf (fun b hb e => (h.q b hb).2.1 e)).mono (fun b hb => Nat.lt_of_lt_of_le (h.q b hb).1 hf.size)⟩, Fr.grown (((Fr.none h.gr).mono (fun _ e => e)).trans hf) (fun i e => by rw [e]; exact h.hW)⟩

/-- One piece, sounded. -/
theorem sound_one (W w8 : World) (g : Gd) (na oa : Option Addr) (nc oc : Nat) (ia : Option Addr) (ic : Nat) (ls : List (List Nat)) (n : Int) (hnd : NdsR w8 (fun b => b < w8.heap.size) (.slice na g.nodes.length nc) g.nodes) (hou : SlA 1 iC w8 (fun b => b < w8.heap.size) (.slice oa g.outs.length oc) g.outs)
    (hfl : ∀ x ∈ g.nodes, x.from_.length ≤ 1048576 ∧ x.pt.step < 4294967296) (hin : InsR W (fun b => b < W.heap.size) (.slice ia ls.length ic) ls) (hil : ls.length ≤ 1048576) (hg : W.grownBy w8 none) :
    Calls Try.prog 7 #[gdV g.ins (.slice na g.nodes.length nc) (.slice oa g.outs.length oc), .slice (some ⟨w8.heap.size, 0, none⟩) 1 1] (w8.alloc (.cells #[.slice ia ls.length ic, .int .i64 n, .bool false] 34)) fun e w' => SoundP (w8.alloc (.cells #[.slice ia ls.length ic, .int .i64 n, .bool false] 34)) g [⟨ls, n, false⟩] e w' := by
  have hga : w8.grownBy (w8.alloc (.cells #[.slice ia ls.length ic, .int .i64 n, .bool false] 34)) none := grown_alloc (grown_refl _ _) _
  exact sound_calls (fun b => b < w8.heap.size + 1) g na oa nc oc (some ⟨w8.heap.size, 0, none⟩) 1 [⟨ls, n, false⟩] _
    ((hnd.fr (X := fun _ => False) (.none hga) (fun _ _ => id)).mono (fun b hb => by omega)) ((hou.grown hga).mono (fun b hb => by omega)) hfl
    ⟨[(⟨ls, n, false⟩, .slice ia ls.length ic)], rfl, sla_whole pcC_len (xs := [(⟨ls, n, false⟩, .slice ia ls.length ic)]) (heap_alloc_new _ _) (by omega), fun p hp => by
      simp only [List.mem_cons, List.not_mem_nil, or_false] at hp
      subst hp
      exact (InsR.grown hin (grown_trans hg hga)).mono (fun b hb => by have := hg.size; omega)⟩
    (fun b hb => by simp; omega) (fun p hp => by
      simp only [List.mem_cons, List.not_mem_nil, or_false] at hp
      subst hp
      exact hil) (by show (1 : Nat) ≤ _; decide)

set_option maxHeartbeats 16000000 in
set_option maxRecDepth 100000 in
theorem law (g : Gd) (na oa : Option Addr) (nc oc : Nat) (ia : Option Addr) (ic : Nat) (ls : List (List Nat)) (n : Int) (ca : Option Addr) (cc : Nat) (cs : List Int) (W : World) (hnd : NdsR W (fun b => b < W.heap.size) (.slice na g.nodes.length nc) g.nodes) (hou : SlA 1 iC W (fun b => b < W.heap.size) (.slice oa g.outs.length oc) g.outs)
    (hfl : ∀ x ∈ g.nodes, x.from_.length ≤ 1048576 ∧ x.pt.step < 4294967296) (hin : InsR W (fun b => b < W.heap.size) (.slice ia ls.length ic) ls) (hil : ls.length ≤ 1048576) (hcs : SlA 1 iC W (fun b => b < W.heap.size) (.slice ca cs.length cc) cs) (hcl : cs.length ≤ 1048576) (hol : g.outs.length ≤ 1048576) :
    Calls Try.prog 5 #[gdV g.ins (.slice na g.nodes.length nc) (.slice oa g.outs.length oc), .slice ia ls.length ic, .int .i64 n, .slice ca cs.length cc] W fun e w' => e = .returned (.bool true) ∧ Hid (W.grownBy w' none) := by
  obtain ⟨K, hK⟩ : ∃ K, ls.length = K := ⟨_, rfl⟩
  obtain ⟨C, hC⟩ : ∃ C, cs.length = C := ⟨_, rfl⟩
  have HND := Lib.hid hnd
  have HOU := Lib.hid hou
  have HFL := Lib.hid hfl
  rw [hK] at hin hil ⊢
  rw [hC] at hcs hcl ⊢
  have HK := Lib.hid hK
  have HC := Lib.hid hC
  have HIN := Lib.hid hin
  have HCS := Lib.hid hcs
  have AC := fun w => Lib.hid (alive_calls w)
  obtain ⟨N, hN⟩ : ∃ N, g.nodes.length = N := ⟨_, rfl⟩
  obtain ⟨M, hM⟩ : ∃ M, g.outs.length = M := ⟨_, rfl⟩
  obtain ⟨ins, hins⟩ : ∃ ins, g.ins = ins := ⟨_, rfl⟩
  unfold gdV
  rw [hM] at hol
  rw [hN, hM, hins]
  have HN := Lib.hid hN
  have HM := Lib.hid hM
  have HI := Lib.hid hins
  have HGA : Hid (W.grownBy (W.alloc (.cells #[.int .i64 ins, .slice na N nc, .slice oa M oc] 25)) none) := grown_alloc (grown_refl _ _) _
  have HAB : Hid ((W.alloc (.cells #[.int .i64 ins, .slice na N nc, .slice oa M oc] 25)).heap[W.heap.size]? = some (.cells #[.int .i64 ins, .slice na N nc, .slice oa M oc] 25 (0, 0))) := heap_alloc_new _ _
  have HGA5 : ∀ (w : World) o, Hid (w.grownBy (w.alloc o) none) := fun w o => grown_alloc (grown_refl _ _) _
  clear hnd hou hfl hin hcs hK hC hN hM hins
  go_enter Try.func5, Try.ntmps5
  go_upto_region 3 with (go_at_call 12; refine ((AC _).out).mono ?_; rintro ez w2 ⟨rfl, hg2⟩)
  have HG2 : Hid (W.grownBy w2 none) := grown_trans HGA.out hg2.out
  have HAB2 := Lib.hid (row_kept hg2.out HAB.out (by simp))
  have k0 := cell_of HAB2.out 0
  have k1 := cell_of HAB2.out 1
  have k2 := cell_of HAB2.out 2
  clear hg2 HAB HGA AC
  by_cases h1 : n < 0
  · go_wp2_with fail
    go_ret
    exact ⟨rfl, HG2.out⟩
  by_cases h2 : 5000 < n
  · go_wp2_with fail
    go_ret
    exact ⟨rfl, HG2.out⟩
  by_cases hCN : C = N
  case neg =>
    have hb : ((C : Int) == (N : Int)) = false := by simp; omega
    go_wp2_with fail
    go_ret
    exact ⟨rfl, HG2.out⟩
  subst hCN
  obtain ⟨j3, hj3, hz0, hz1, hz2⟩ := info_parts info3
  obtain ⟨j4, hj4, hy0, hy1, hy2⟩ := info_parts info4
  go_upto_region 7 with (first
    | (at_make; refine wpList_make_full _ rfl _ _ 23 rfl w2.heap.size 3 j3 (.int .i64 0) 1 Try.underlying23 hj3 hz0 hz1 _ _ _ _ C rfl rfl rfl rfl (by rw [hz2]; omega) (by unfold maxLen; omega) (Nat.le_refl _) ?_; intro w3 hown3 hg3; have HO3 := Lib.hid hown3; have HG3 := Lib.hid hg3; clear hown3 hg3)
    | (at_make; refine wpList_make_full _ rfl _ _ 45 rfl w3.heap.size 4 j4 (.bool false) 1 Try.underlying45 hj4 hy0 hy1 _ _ _ _ C rfl rfl rfl rfl (by rw [hy2]; omega) (by unfold maxLen; omega) (Nat.le_refl _) ?_; intro w4 hown4 hg4; have HO4 := Lib.hid hown4; have HG4 := Lib.hid hg4; clear hown4 hg4))
  have HT0 : Hid (ToS w2 w4 w2.heap.size w3.heap.size C [] (List.replicate C 0) (List.replicate C false)) := by
    have h3 := HO3.out
    have h4 := HO4.out
    rw [show (madeCells (Value.int .i64 0).cells (C * 1)).toList = List.replicate C (Value.int .i64 0) from by rw [Nat.mul_one]; exact madeCells_one _ _] at h3
    rw [show (madeCells (Value.bool false).cells (C * 1)).toList = List.replicate C (Value.bool false) from by rw [Nat.mul_one]; exact madeCells_one _ _] at h4
    refine ⟨?_, ?_, .zero C, grown_trans HG3.out HG4.out⟩
    · rw [List.map_replicate]
      exact row_kept HG4.out (new_of_made h3) (by simp)
    · rw [List.map_replicate]
      exact new_of_made h4
  have hs23 : w2.heap.size < w3.heap.size := by
    have h3 := HO3.out
    rw [show (madeCells (Value.int .i64 0).cells (C * 1)).toList = List.replicate C (Value.int .i64 0) from by rw [Nat.mul_one]; exact madeCells_one _ _] at h3
    exact lt_of (new_of_made h3)
  obtain ⟨tB, htB⟩ : ∃ tB, w2.heap.size = tB := ⟨_, rfl⟩
  obtain ⟨sB, hsB⟩ : ∃ sB, w3.heap.size = sB := ⟨_, rfl⟩
  rw [htB, hsB] at HT0
  have HTB : Hid (w2.heap.size ≤ tB ∧ w2.heap.size ≤ sB ∧ sB ≠ tB) := ⟨Nat.le_of_eq htB, by omega, by omega⟩
  simp only [htB, hsB]
  have HN5 : Hid (¬ n < 0 ∧ ¬ 5000 < n) := ⟨h1, h2⟩
  clear hs23 htB hsB HO3 HO4 HG3 HG4 k0 k1 k2 h1 h2
  go_wp2_with fail
  go_loopw [11, 12, 50] (fun v11 v12 v50 wr => ∃ (k : Nat) (tl : List Nat) (sn : List Bool), k ≤ C ∧ v50 = .int .i64 (k : Int) ∧ Hid (ToS w2 wr tB sB C (cs.take k) tl sn)) (fun _ _ v50 _ => C - (intOf v50).toNat)
  case atStart => exact ⟨0, _, _, Nat.zero_le _, rfl, HT0.out⟩
  case round =>
    obtain ⟨k, tl, sn, hk, rfl, HTS⟩ := hrel
    obtain ⟨wz, hwz⟩ : ∃ wz : World, wz = wr := ⟨_, rfl⟩
    subst hwz
    by_cases hkC : k = C
    · have h9 := hkC.symm
      subst h9
      clear hkC HT0
      rw [show cs.take C = cs from List.take_of_length_le (Nat.le_of_eq HC.out)] at HTS
      obtain ⟨os, hos⟩ : ∃ os, cs.map Int.toNat = os := ⟨_, rfl⟩
      have HPR : Hid (Prm C os tl) := by
        unfold Hid
        rw [← hos]
        exact HTS.out.i.prm HC.out
      have HOS : Hid (∀ (k : Nat) (x : Int), cs[k]? = some x → x = ((os.getD k 0 : Nat) : Int)) := fun k x hx => by
        rw [← hos, List.getD_eq_getElem?_getD, List.getElem?_map, hx]
        have := HTS.out.i.rng x (List.mem_of_getElem? hx)
        simp
        omega
      have HGZ : Hid (W.grownBy wz none) := grown_trans HG2.out HTS.out.gr
      have HABZ := Lib.hid (row_kept HTS.out.gr HAB2.out (by simp))
      have HTT := Lib.hid HTS.out.tr
      have HTL : Hid (tl.length = C) := HTS.out.i.tlen
      have k0 := cell_of HABZ.out 0
      clear hos HTS HG2 HAB2 HTB
      go_upto_region 15 with fail
      have HO0 : Hid (OrS (wz.heap.size + 1) wz (wz.alloc (.cells #[.int .i64 ins, .slice none 0 0, .slice none 0 0] 25)) wz.heap.size ins 0 none 0 [] [] (fun _ => False)) := ⟨heap_alloc_new _ _, World.ownsRow_nil _ _ _ _, rfl, rfl, fun p hp => by simp at hp, fun b hb => hb.elim, Nat.lt_succ_self _, (HGA5 _ _).out, Nat.le_refl _⟩
      obtain ⟨hB, hhB⟩ : ∃ hB, wz.heap.size = hB := ⟨_, rfl⟩
      obtain ⟨wh, hwh⟩ : ∃ wh, wz.alloc (.cells #[.int .i64 ins, .slice none 0 0, .slice none 0 0] 25) = wh := ⟨_, rfl⟩
      rw [hhB, hwh] at HO0
      simp only [hhB, hwh]
      clear hhB hwh k0
      go_wp2_with fail
      go_loopw [15, 82] (fun v15 v82 wr => ∃ (k : Nat) (ha : Option Addr) (hc : Nat) (ps : List (Nd × Value)) (Q : Nat → Prop), k ≤ C ∧ v82 = .int .i64 (k : Int) ∧ Hid (OrS (hB + 1) wz wr hB ins k ha hc ps ((permG g os tl).nodes.take k) Q) ∧ Hid (∀ j, j < k → ∀ x, g.nodes[os.getD j 0]? = some x → ∀ z ∈ x.from_, 0 ≤ z ∧ z < (C : Int))) (fun _ v82 _ => C - (intOf v82).toNat)
      case atStart => exact ⟨0, none, 0, [], _, Nat.zero_le _, rfl, HO0.out, fun j hj => absurd hj (Nat.not_lt_zero j)⟩
      case round =>
        obtain ⟨k, ha, hc, ps, Q, hk, rfl, HOR, HRF⟩ := hrel
        obtain ⟨wx, hwx⟩ : ∃ wx : World, wx = wr := ⟨_, rfl⟩
        subst hwx
        by_cases hkC : k = C
        · have h9 := hkC.symm
          subst h9
          clear hkC HO0
          have HNP : Hid (Prm g.nodes.length os tl) := by unfold Hid; rw [HN.out]; exact HPR.out
          have HRX : Hid (∀ x ∈ g.nodes, ∀ z ∈ x.from_, 0 ≤ z ∧ z < (g.nodes.length : Int)) := fun x hx z hz => by
            obtain ⟨i, hi⟩ := List.mem_iff_getElem?.1 hx
            have hil := (List.getElem?_eq_some_iff.1 hi).1
            obtain ⟨h1, h2⟩ := HNP.out.ti i hil
            rw [HN.out] at h1 ⊢
            exact HRF.out _ h1 x (by rw [h2]; exact hi) z hz
          have HLP : Hid ((permG g os tl).nodes.length = C) := by unfold Hid; rw [perm_len HNP.out, HN.out]
          rw [show (permG g os tl).nodes.take C = (permG g os tl).nodes from List.take_of_length_le (Nat.le_of_eq HLP.out)] at HOR
          have HGX : Hid (W.grownBy wx none) := grown_trans HGZ.out HOR.out.gr
          have HU0 : Hid (UtS wx wx hB ins C ha hc tl g.outs 0 none 0) := ⟨HOR.out.row, World.ownsRow_nil _ _ _ _, Fr.refl _ _, lt_of HOR.out.row⟩
          have e2 := cell_of (row_kept HOR.out.gr HABZ.out (by simp)) 2
          clear HRF
          go_wp2_with fail
          go_loopw [20, 131] (fun v20 v131 wr => ∃ (q : Nat) (ua : Option Addr) (uc : Nat), q ≤ M ∧ v131 = .int .i64 (q : Int) ∧ Hid (UtS wx wr hB ins C ha hc tl g.outs q ua uc) ∧ Hid (∀ z ∈ g.outs.take q, 0 ≤ z ∧ z < (C : Int))) (fun _ v131 _ => M - (intOf v131).toNat)
          case atStart => exact ⟨0, none, 0, Nat.zero_le _, rfl, HU0.out, fun z hz => by simp at hz⟩
          case round =>
            obtain ⟨q, ua, uc, hq, rfl, HUT, HRQ⟩ := hrel
            obtain ⟨wu, hwu⟩ : ∃ wu : World, wu = wr := ⟨_, rfl⟩
            subst hwu
            by_cases hqM : q = M
            · have h9 := hqM.symm
              subst h9
              clear hqM HU0 e2
              rw [show g.outs.take M = g.outs from List.take_of_length_le (Nat.le_of_eq HM.out)] at HRQ
              have HREF : Hid (RefsOk g) := ⟨HRX.out, by rw [HN.out]; exact HRQ.out⟩
              obtain ⟨hnd2, hgu⟩ := HOR.out.later HUT.out.fr
              have HGU : Hid (W.grownBy wu none) := grown_trans HGZ.out hgu
              have hou2 : SlA 1 iC wu (fun b => b < wu.heap.size) (.slice ua M uc) (permG g os tl).outs := by
                have h := HUT.out.own
                rw [List.take_of_length_le (Nat.le_of_eq HM.out)] at h
                exact sla_of_own iC_len (xs := (permG g os tl).outs) (by rw [show (permG g os tl).outs.length = M from by show (g.outs.map _).length = _; rw [List.length_map, HM.out]]; exact h) _ (fun b hb => (own_base h hb).2)
              have hfl2 : ∀ y ∈ (permG g os tl).nodes, y.from_.length ≤ 1048576 ∧ y.pt.step < 4294967296 := fun y hy => by
                obtain ⟨x, hx, rfl⟩ := (perm_mem HNP.out y).1 hy
                refine ⟨?_, (HFL.out x hx).2⟩
                show (x.from_.map _).length ≤ _
                rw [List.length_map]
                exact (HFL.out x hx).1
              have SC1 := sound_one W wu g na oa nc oc ia ic ls n ((HND.out.fr (X := fun _ => False) (.none HGU.out) (fun _ _ => id)).mono (fun b hb => by have := HGU.out.size; omega)) ((HOU.out.grown HGU.out).mono (fun b hb => by have := HGU.out.size; omega)) HFL.out (by rw [HK.out]; exact HIN.out) (by rw [HK.out]; exact hil) HGU.out
              have SC2 := fun (w8 : World) (hg : wu.grownBy w8 none) => sound_one W w8 (permG g os tl) ha ua hc uc ia ic ls n (by rw [HLP.out]; exact (hnd2.fr (X := fun _ => False) (.none hg) (fun _ _ => id)).mono (fun b hb => by have := hg.size; omega)) (by rw [show (permG g os tl).outs.length = M from by show (g.outs.map _).length = _; rw [List.length_map, HM.out]]; exact (hou2.grown hg).mono (fun b hb => by have := hg.size; omega)) hfl2 (by rw [HK.out]; exact HIN.out) (by rw [HK.out]; exact hil) (grown_trans HGU.out hg)
              unfold gdV at SC1 SC2
              rw [HN.out, HM.out, HI.out, HK.out] at SC1
              rw [HLP.out, show (permG g os tl).outs.length = M from by show (g.outs.map _).length = _; rw [List.length_map, HM.out], show (permG g os tl).ins = ins from HI.out, HK.out] at SC2
              have H1C := Lib.hid SC1
              have H2C := Lib.hid SC2
              have HABU : Hid (wu.heap[W.heap.size]? = some (.cells #[.int .i64 ins, .slice na C nc, .slice oa M oc] 25 (0, 0))) := row_kept hgu HABZ.out (by simp)
              have c0 := cell_of HABU.out 0
              have c1 := cell_of HABU.out 1
              have c2 := cell_of HABU.out 2
              have f0 : wu.cell? ⟨hB, 0, none⟩ = some (.int .i64 ins) := cell_of HUT.out.row 0
              have f1 : wu.cell? ⟨hB, 1, none⟩ = some (.slice ha C hc) := cell_of HUT.out.row 1
              have f2 : wu.cell? ⟨hB, 2, none⟩ = some (.slice ua M uc) := cell_of HUT.out.row 2
              have hpp := perm_pre HNP.out HREF.out
              have hac := perm_acy HNP.out HREF.out
              have HPP := Lib.hid hpp
              have HAC := Lib.hid hac
              clear SC1 SC2 hnd2 hou2 hfl2 hpp hac hgu HTT HPR HOS
              go_upto_region 37 with (go_at_call 7; refine (H1C.out).mono ?_; rintro ez w8 ⟨hg8, H1⟩; have HG8 : Hid (wu.grownBy w8 none) := grown_trans (HGA5 _ _).out hg8.out; have e0 := grown_cell HG8.out f0 (by simp); have e1 := grown_cell HG8.out f1 (by simp); have e2 := grown_cell HG8.out f2 (by simp); rcases H1 with ⟨hp, rfl⟩ | ⟨hp, s, hv, rfl⟩ | ⟨hp, s, ov, hv, rfl, hhd⟩)
              all_goals have SC := Lib.hid (H2C.out w8 HG8.out)
              · have hp2' : preE (permG g os tl) ≠ 0 := fun e => hp (HPP.out.1 e)
                have HP2 := Lib.hid hp2'
                have hEn : (preE g == 0) = false := by simpa using hp
                have hEn2 : (preE (permG g os tl) == 0) = false := by simpa using hp2'
                go_upto_region 38 with (go_at_call 7; refine (SC.out).mono ?_; rintro ez w9 ⟨hg9, ⟨hp2, rfl⟩ | ⟨hp2, s2, hv2, rfl⟩ | ⟨hp2, s2, ov2, hv2, rfl, hhd2⟩⟩)
                · clear hp hp2 hp2'
                  go_wp2_with fail
                  go_ret
                  exact ⟨by have h := HP2.out; simpa [hEn, hEn2] using h, grown_trans HGU.out (grown_trans HG8.out (grown_trans (HGA5 _ _).out hg9.out))⟩
                · exact absurd hp2 HP2.out
                · exact absurd hp2 HP2.out
              · go_upto_region 38 with (go_at_call 7; refine (SC.out).mono ?_; rintro ez w9 ⟨hg9, ⟨hp2, rfl⟩ | ⟨hp2, s2, hv2, rfl⟩ | ⟨hp2, s2, ov2, hv2, rfl, hhd2⟩⟩)
                · exact absurd (HPP.out.2 hp) hp2
                · go_wp2_with fail
                  go_ret
                  exact ⟨by rfl, grown_trans HGU.out (grown_trans HG8.out (grown_trans (HGA5 _ _).out hg9.out))⟩
                · exact absurd ((vis_acy hv.out).2 (HAC.out.1 ((vis_acy hv2.out).1 rfl))) (by decide)
              go_upto_region 38 with (go_at_call 7; refine (SC.out).mono ?_; rintro ez w9 ⟨hg9, ⟨hp2, rfl⟩ | ⟨hp2, s2, hv2, rfl⟩ | ⟨hp2, s2, ov2, hv2, rfl, hhd2⟩⟩)
              · exact absurd (HPP.out.2 hp) hp2
              · exact absurd ((vis_acy hv2.out).2 (HAC.out.2 ((vis_acy hv.out).1 rfl))) (by decide)
              have hsame := order_same HNP.out HREF.out hp (fun x hx => (HFL.out x hx).1) hv.out hv2.out ⟨ls, n, false⟩ rfl
              have hle := runG_le g s.order (chunkK g.nodes) (g.nodes.map GMod.start) ls n
              have HGT : Hid (w8.grownBy w9 none) := grown_trans (HGA5 _ _).out hg9.out
              have h1 := HdsR.grown hhd.out HGT.out
              have h2 := hhd2.out
              rw [hsame] at h2
              have e3 : soundG g s.order (chunkK g.nodes) (g.nodes.map GMod.start) [⟨ls, n, false⟩] = [(runG g s.order (chunkK g.nodes) (g.nodes.map GMod.start) ls n).1] := by simp [soundG]
              rw [e3] at h1 h2
              have HGF : Hid (W.grownBy w9 none) := grown_trans HGU.out (grown_trans HG8.out HGT.out)
              have hM256 : g.outs.length ≤ 256 := (pre_ok hp).2.1
              have hn5 := HN5.out
              unfold Hid at hn5
              obtain ⟨r, hr⟩ : ∃ r, (runG g s.order (chunkK g.nodes) (g.nodes.map GMod.start) ls n).1 = r := ⟨_, rfl⟩
              rw [hr] at h1 h2 hle
              obtain ⟨o, re⟩ := r
              dsimp only at hle
              obtain ⟨ao, c, rfl⟩ := hds_open h1
              obtain ⟨bo, c3, rfl⟩ := hds_open h2
              obtain ⟨b1, o1, oa1, oc1, rfl, d0, d1, hcl1⟩ := hds_at h1 (i := 0) rfl
              obtain ⟨b2, o2, oa2, oc2, rfl, d4, d5, hcl2⟩ := hds_at h2 (i := 0) rfl
              simp only [List.length_cons, List.length_nil, Nat.zero_mul, Nat.add_zero, Nat.zero_add] at d0 d1 d4 d5 hcl1 hcl2 ⊢
              obtain ⟨OL, hOL⟩ : ∃ OL, o.length = OL := ⟨_, rfl⟩
              rw [hOL] at d0 d4 hcl1 hcl2
              have HOL := Lib.hid hOL
              have hOLs : OL ≤ 256 := by omega
              have HLE : Hid (∀ l ∈ o, l.length ≤ 5000) := fun l hl => by have := hle.1 l hl; omega
              have HC1 := Lib.hid hcl1
              have HC2 := Lib.hid hcl2
              clear h1 h2 hhd hhd2 hr hv hv2 hp hp2 hg8 hg9 HG8 HGT hsame e3 hle hM256 SC H1C H2C hcl1 hcl2 hOL c0 c1 c2 f0 f1 f2 e0 e1 e2 hn5
              go_upto_region 40 with fail
              go_quiet (fail)
              obtain ⟨w5, hw5⟩ : ∃ w5, w9.drewN nq = w5 := ⟨_, rfl⟩
              have HG5 : Hid (w9.grownBy w5 none) := by unfold Hid; rw [← hw5]; exact grown_drewN (grown_refl _ _) nq
              simp only [hw5]
              clear hw5
              have HGF5 : Hid (W.grownBy w5 none) := grown_trans HGF.out HG5.out
              have HC15 := Lib.hid (HC1.out.grown HG5.out)
              have HC25 := Lib.hid (HC2.out.grown HG5.out)
              replace d0 := grown_cell HG5.out d0 (by simp)
              replace d4 := grown_cell HG5.out d4 (by simp)
              clear d1 d5 HG5 HGF HC1 HC2
              go_wp2_with fail
              go_loopw [25, 223] (fun v25 v223 wr => ∃ q m2 : Nat, q ≤ OL ∧ v223 = .int .i64 (q : Int) ∧ wr = w5.drewN m2) (fun _ v223 _ => OL - (intOf v223).toNat)
              case atStart => exact ⟨0, 0, Nat.zero_le _, rfl, rfl⟩
              case round =>
                obtain ⟨q, m2, hq, rfl, rfl⟩ := hrel
                obtain ⟨wq, hwq⟩ : ∃ wq, w5.drewN m2 = wq := ⟨_, rfl⟩
                have HWQ := Lib.hid hwq
                have HGQ : Hid (w5.grownBy wq none) := by unfold Hid; rw [← hwq]; exact grown_drewN (grown_refl _ _) m2
                simp only [hwq]
                clear hwq
                by_cases hqO : q = OL
                · subst hqO
                  go_wp2_with fail
                  go_ret
                  exact ⟨rfl, grown_trans HGF5.out HGQ.out⟩
                have hql : (q : Int) < (OL : Int) := by omega
                have hql2 : q < OL := by omega
                have hwq1 : IntKind.i64.wrap ((q : Int) + 1) = (q : Int) + 1 := IntWalk.i64_in _ (by omega)
                obtain ⟨l, hl⟩ : ∃ l, o[q]? = some l := ⟨o[q]'(by rw [HOL.out]; exact hql2), List.getElem?_eq_getElem _⟩
                obtain ⟨b5, o5, ra1, rc1, rfl, _, e1, f1⟩ := cll_at (HC15.out.grown HGQ.out) hl
                obtain ⟨b6, o6, ra2, rc2, rfl, _, e2, f2⟩ := cll_at (HC25.out.grown HGQ.out) hl
                obtain ⟨LL, hLL⟩ : ∃ LL, l.length = LL := ⟨_, rfl⟩
                have LK : Hid (∀ k : Nat, Calls Try.prog 11 #[.slice ra1 LL rc1, .slice ra2 LL rc2] (wq.drewN k) fun e w' => e = .returned (.bool true) ∧ ∃ m, w' = (wq.drewN k).drewN m) := fun k => by
                  have h := like_same _ _ ra1 ra2 rc1 rc2 l (wq.drewN k) (by have := HLE.out l (List.mem_of_getElem? hl); omega) (f1.grown (grown_drewN (grown_refl _ _) k)) (f2.grown (grown_drewN (grown_refl _ _) k))
                  rw [hLL] at h
                  exact h
                rw [hLL] at e1 e2
                have c0 := grown_cell HGQ.out d0 (by simp)
                have c4 := grown_cell HGQ.out d4 (by simp)
                clear hl f1 f2 hLL
                go_upto_region 45 with fail
                go_quiet ((go_at_call 11; exact Calls.quiet_of (LK.out _)))
                go_wp2_with fail
                refine ⟨?_, by simp [intOf]; omega⟩
                first
                  | exact ⟨q + 1, _, by omega, rfl, by rw [← HWQ.out, World.drewN_drewN]⟩
                  | (repeat apply Exists.intro
                     refine ⟨?_, rfl⟩
                     exact ⟨q + 1, _, by omega, rfl, by rw [← HWQ.out, World.drewN_drewN]⟩)
            --F<
            have hql : (q : Int) < (M : Int) := by omega
            have hql2 : q < M := by omega
            have hwq : IntKind.i64.wrap ((q : Int) + 1) = (q : Int) + 1 := IntWalk.i64_in _ (by omega)
            obtain ⟨z, hz⟩ : ∃ z, g.outs[q]? = some z := ⟨g.outs[q]'(by rw [HM.out]; exact hql2), List.getElem?_eq_getElem _⟩
            have HGU : Hid (W.grownBy wu none) := grown_trans HGZ.out (HOR.out.later HUT.out.fr).2
            have HOU2 := HOU.out
            rw [HM.out] at HOU2
            obtain ⟨b7, o7, rfl, _, hcell⟩ := sla_at (HOU2.grown HGU.out) hz
            have g0 := hcell 0 _ rfl
            rw [Nat.mul_one, Nat.add_zero] at g0
            have HZ := Lib.hid hz
            clear hcell hz HOU2
            by_cases hz0 : z < 0
            · go_wp2_with fail
              go_ret
              exact ⟨rfl, HGU.out⟩
            by_cases hzC : (C : Int) ≤ z
            · go_wp2_with fail
              go_ret
              exact ⟨rfl, HGU.out⟩
            have hz0' : 0 ≤ z := by omega
            have hzC' : z < (C : Int) := by omega
            obtain ⟨jz, rfl⟩ := Int.eq_ofNat_of_zero_le hz0'
            have hzC2 : jz < C := by omega
            have HTW : Hid (wu.heap[tB]? = some (.cells (tl.map fun k : Nat => Value.int .i64 (k : Int)).toArray 3 (0, 0))) := row_kept (HOR.out.later HUT.out.fr).2 HTT.out (by simp)
            have p0 := st_at HTW.out (i := jz) (by rw [HTL.out]; exact hzC2)
            obtain ⟨tj, htj⟩ : ∃ tj, tl.getD jz 0 = tj := ⟨_, rfl⟩
            have HTJ : Hid (mvR tl (jz : Int) = (tj : Int)) := by
              unfold Hid mvR
              rw [Int.toNat_natCast, htj]
            rw [htj] at p0
            have v0 : wu.cell? ⟨hB, 2, none⟩ = some (.slice ua q uc) := cell_of HUT.out.row 2
            have vf := free_of HUT.out.row 2
            have HOWD : Hid (∀ w', wu.grownBy w' none → w'.ownsRow wx.heap.size 3 1 (.slice ua q uc) q (flC iC ((g.outs.take q).map (mvR tl)))) := fun w' hg => own_kept HUT.out.own hg
            have HBS : Hid (wx.heap.size ≤ wu.heap.size) := HUT.out.fr.size
            have HNO : Hid ((Value.slice ua q uc).ownBlock ≠ some hB) := fun e => by
              have h1 := (own_base HUT.out.own e).1
              have h2 := HUT.out.lt
              omega
            have va0 : ∀ o, (wu.alloc o).cell? ⟨hB, 2, none⟩ = some (.slice ua q uc) := fun o => cell_of (row_kept (grown_alloc (grown_refl _ none) _) HUT.out.row (by simp)) 2
            have vb0 : ∀ o, (wu.alloc o).drew.cell? ⟨hB, 2, none⟩ = some (.slice ua q uc) := fun o => cell_of (row_kept (grown_drew (grown_alloc (grown_refl _ none) _)) HUT.out.row (by simp)) 2
            obtain ⟨j8, hj8, hx0, hx1, hx2⟩ := info_parts info3
            clear htj hz0 hzC
            go_upto_region 34 with fail
            go_region_law (refine step_append_lies _ rfl (.tmp 144) (.tmp 149) 23 rfl wx.heap.size 3 j8 (.int .i64 0) 1 8 Try.underlying23 hj8 hx0 hx1 hx2 rfl (by decide) (.slice ua q uc) q (flC iC ((g.outs.take q).map (mvR tl))) rfl (HOWD.out _ (by repeat (first | exact grown_alloc (grown_refl _ _) _ | refine grown_drew ?_))) ⟨wu.heap.size, 0, none⟩ 1 1 [.int .i64 (tj : Int)] rfl rfl (World.news_of_block (cs := #[.int .i64 (tj : Int)]) (t := 3) (fr := (0, 0)) (by exact heap_alloc_new wu _)) (by simp [Value.oneCell']) (by decide) (by unfold maxLen; omega) (by omega) (by have := HBS.out; unfold Hid at this; simp; omega) _ rfl ?_; intro g9 cap w9 hown9 hgrow hat hlt9; have HG9 : Hid (wu.grownBy w9 (Value.slice ua q uc).ownBlock) := grown_trans (grown_none (by repeat (first | exact grown_alloc (grown_refl _ _) _ | refine grown_drew ?_)) _) hgrow; have HOWN := Lib.hid hown9; have HR9 := row_kept HG9.out HUT.out.row (fun e => HNO.out e.symm); have t0 : w9.cell? ⟨hB, 2, none⟩ = some (.slice ua q uc) := cell_of HR9 2; have tf := free_of HR9 2; clear hown9 hgrow hat hlt9 HR9)
            all_goals
              have HPU : Hid (UtS wx (w9.setCell ⟨hB, 2, none⟩ (.slice (some ⟨g9, 0, none⟩) (q + 1) cap)) hB ins C ha hc tl g.outs (q + 1) (some ⟨g9, 0, none⟩) cap) := HUT.out.push HZ.out (by rw [HTJ.out]; exact HOWN.out) HG9.out
              have HRN : Hid (∀ z ∈ g.outs.take (q + 1), 0 ≤ z ∧ z < (C : Int)) := fun z hz => by
                rw [take_next HZ.out, List.mem_append, List.mem_singleton] at hz
                rcases hz with hz | rfl
                · exact HRQ.out z hz
                · exact ⟨hz0', hzC'⟩
              clear v0 vf va0 vb0 t0 tf p0 g0
              go_wp2_with fail
              refine ⟨?_, by simp [intOf]; omega⟩
              first
                | exact ⟨q + 1, _, _, by omega, rfl, HPU.out, HRN.out⟩
                | (repeat apply Exists.intro
                   refine ⟨?_, rfl⟩
                   exact ⟨q + 1, _, _, by omega, rfl, HPU.out, HRN.out⟩)
            --F>
        --F<
        have hkl : (k : Int) < (C : Int) := by omega
        have hkl2 : k < C := by omega
        have hwk : IntKind.i64.wrap ((k : Int) + 1) = (k : Int) + 1 := IntWalk.i64_in _ (by omega)
        have HGX : Hid (W.grownBy wx none) := grown_trans HGZ.out HOR.out.gr
        obtain ⟨x0, hx⟩ : ∃ x, cs[k]? = some x := ⟨cs[k]'(by rw [HC.out]; exact hkl2), List.getElem?_eq_getElem _⟩
        obtain ⟨b5, o5, rfl, _, hcell⟩ := sla_at (HCS.out.grown HGX.out) hx
        have hc0 := hcell 0 _ rfl
        rw [Nat.mul_one, Nat.add_zero, HOS.out k x0 hx] at hc0
        obtain ⟨hi1, hi2⟩ := HPR.out.ot k hkl2
        obtain ⟨i, hi⟩ : ∃ i, os.getD k 0 = i := ⟨_, rfl⟩
        have HIK := Lib.hid hi
        rw [hi] at hc0 hi1
        have hiC : (i : Int) < (C : Int) := by omega
        have hi0 : (0 : Int) ≤ (i : Int) := by omega
        obtain ⟨x, hx2⟩ : ∃ x, g.nodes[i]? = some x := ⟨g.nodes[i]'(by rw [HN.out]; exact hi1), List.getElem?_eq_getElem _⟩
        have HND2 := HND.out
        rw [HN.out] at HND2
        obtain ⟨b6, o6, fa, fc, rfl, hA6, hrg, _, hfs⟩ := nds_at HND2 hx2
        have hfx := HFL.out x (List.mem_of_getElem? hx2)
        have HX := Lib.hid hx2
        have HPX : Hid ((permG g os tl).nodes.take (k + 1) = (permG g os tl).nodes.take k ++ [mvN tl x]) := by
          unfold Hid
          refine take_next ?_
          obtain ⟨x', h1, h2⟩ := perm_at (g := g) (by rw [HN.out]; exact HPR.out) (k := k) (by rw [HN.out]; exact hkl2)
          rw [hi, hx2] at h1
          injection h1 with h1
          rw [h2, h1]
        obtain ⟨kind, fr, nn, xx, ⟨q0, q1, q2, q3, q4⟩, ⟨shape, step, gain, att, dec, rel, sus⟩⟩ := x
        dsimp only at hfs hfx
        obtain ⟨F, hF⟩ : ∃ F, fr.length = F := ⟨_, rfl⟩
        have HF := Lib.hid hF
        rw [hF] at hfs hfx hrg
        obtain ⟨x, hx3⟩ : ∃ x : Nd, (⟨kind, fr, nn, xx, ⟨q0, q1, q2, q3, q4⟩, ⟨shape, step, gain, att, dec, rel, sus⟩⟩ : Nd) = x := ⟨_, rfl⟩
        have HXE := Lib.hid hx3
        rw [hx3] at HX HPX
        have hgx := HGX.out
        have d0 := grown_cell hgx (hrg 0 _ rfl) (by simp)
        rw [Nat.add_zero] at d0
        have d1 := grown_cell hgx (hrg 1 _ rfl) (by simp)
        have d2 := grown_cell hgx (hrg 2 _ rfl) (by simp)
        have d3 := grown_cell hgx (hrg 3 _ rfl) (by simp)
        have d4 := grown_cell hgx (hrg 4 _ rfl) (by simp)
        have d5 := grown_cell hgx (hrg 5 _ rfl) (by simp)
        have d6 := grown_cell hgx (hrg 6 _ rfl) (by simp)
        have d7 := grown_cell hgx (hrg 7 _ rfl) (by simp)
        have d8 := grown_cell hgx (hrg 8 _ rfl) (by simp)
        have d9 := grown_cell hgx (hrg 9 _ rfl) (by simp)
        have d10 := grown_cell hgx (hrg 10 _ rfl) (by simp)
        have d11 := grown_cell hgx (hrg 11 _ rfl) (by simp)
        have d12 := grown_cell hgx (hrg 12 _ rfl) (by simp)
        have d13 := grown_cell hgx (hrg 13 _ rfl) (by simp)
        have d14 := grown_cell hgx (hrg 14 _ rfl) (by simp)
        have d15 := grown_cell hgx (hrg 15 _ rfl) (by simp)
        have e1 := cell_of (row_kept HOR.out.gr HABZ.out (by simp)) 1
        have HFS := Lib.hid (hfs.grown hgx)
        have hfx1 := hfx.1
        clear hx hcell hx2 hx3 hfs hfx hF hrg hgx hi hi2 HND2 hA6
        go_upto_region 20 with fail
        have HFM0 : Hid (FmS wx (wx.alloc (.cells #[.int .i64 kind, .slice none 0 0, .int .i64 nn, .float .f64 xx, .float .f64 q0, .float .f64 q1, .float .f64 q2, .float .f64 q3, .float .f64 q4, .int .i64 shape, .int .u32 step, .float .f64 gain, .int .i64 att, .int .i64 dec, .int .i64 rel, .int .i64 sus] 53)) wx.heap.size x tl 0 none 0) := by
          unfold Hid
          have h := HXE.out
          unfold Hid at h
          rw [← h]
          exact ⟨heap_alloc_new _ _, World.ownsRow_nil _ _ _ _, (HGA5 _ _).out, Nat.le_refl _⟩
        obtain ⟨xB, hxB⟩ : ∃ xB, wx.heap.size = xB := ⟨_, rfl⟩
        obtain ⟨wy, hwy⟩ : ∃ wy, wx.alloc (.cells #[.int .i64 kind, .slice none 0 0, .int .i64 nn, .float .f64 xx, .float .f64 q0, .float .f64 q1, .float .f64 q2, .float .f64 q3, .float .f64 q4, .int .i64 shape, .int .u32 step, .float .f64 gain, .int .i64 att, .int .i64 dec, .int .i64 rel, .int .i64 sus] 53) = wy := ⟨_, rfl⟩
        rw [hxB, hwy] at HFM0
        have e1 := grown_cell HFM0.out.gr e1 (by simp)
        have d1 := grown_cell HFM0.out.gr d1 (by simp)
        have HXB : Hid (wx.heap.size = xB) := hxB
        simp only [hxB, hwy]
        clear hxB hwy d0 d2 d3 d4 d5 d6 d7 d8 d9 d10 d11 d12 d13 d14 d15
        go_wp2_with fail
        go_loopw [18, 99] (fun v18 v99 wr => ∃ (q : Nat) (ya : Option Addr) (yc : Nat), q ≤ F ∧ v99 = .int .i64 (q : Int) ∧ Hid (FmS wx wr xB x tl q ya yc) ∧ Hid (∀ z ∈ fr.take q, 0 ≤ z ∧ z < (C : Int))) (fun _ v99 _ => F - (intOf v99).toNat)
        case atStart => exact ⟨0, none, 0, Nat.zero_le _, rfl, HFM0.out, fun z hz => by simp at hz⟩
        case round =>
          obtain ⟨q, ya, yc, hq, rfl, HFM, HRQ⟩ := hrel
          obtain ⟨wu, hwu⟩ : ∃ wu : World, wu = wr := ⟨_, rfl⟩
          subst hwu
          by_cases hqF : q = F
          · have h9 := hqF.symm
            subst h9
            clear hqF HFM0 e1 d1
            rw [show fr.take F = fr from List.take_of_length_le (Nat.le_of_eq HF.out)] at HRQ
            have HXR : Hid (wu.heap[xB]? = some (.cells #[.int .i64 kind, .slice ya F yc, .int .i64 nn, .float .f64 xx, .float .f64 q0, .float .f64 q1, .float .f64 q2, .float .f64 q3, .float .f64 q4, .int .i64 shape, .int .u32 step, .float .f64 gain, .int .i64 att, .int .i64 dec, .int .i64 rel, .int .i64 sus] 53 (0, 0))) := by
              have h := HXE.out
              unfold Hid at h
              have h2 := HFM.out.row
              rw [← h] at h2
              exact h2
            have HOWF : Hid (wu.ownsRow (xB + 1) 3 1 (.slice ya F yc) F (flC iC (mvN tl x).from_)) := by
              have h := HXE.out
              unfold Hid at h
              have h2 := HFM.out.own
              rw [← h] at h2 ⊢
              rw [show (⟨kind, fr, nn, xx, ⟨q0, q1, q2, q3, q4⟩, ⟨shape, step, gain, att, dec, rel, sus⟩⟩ : Nd).from_.take F = fr from List.take_of_length_le (Nat.le_of_eq HF.out)] at h2
              exact h2
            have HML : Hid ((mvN tl x).from_.length = F) := by
              have h := HXE.out
              unfold Hid at h ⊢
              rw [← h]
              show (fr.map _).length = _
              rw [List.length_map, HF.out]
            have HNDC : Hid (ndC (mvN tl x, .slice ya F yc) = [.int .i64 kind, .slice ya F yc, .int .i64 nn, .float .f64 xx, .float .f64 q0, .float .f64 q1, .float .f64 q2, .float .f64 q3, .float .f64 q4, .int .i64 shape, .int .u32 step, .float .f64 gain, .int .i64 att, .int .i64 dec, .int .i64 rel, .int .i64 sus]) := by
              have h := HXE.out
              unfold Hid at h ⊢
              rw [← h]
              rfl
            have HORU := Lib.hid (HOR.out.grown HFM.out.gr)
            have HHX : Hid (hB < xB ∧ ∀ b, (Value.slice ha k hc).ownBlock = some b → b < xB) := by
              have h := HXB.out
              unfold Hid at h
              refine ⟨?_, fun b hb => ?_⟩
              · have := lt_of HOR.out.row
                omega
              · have := (own_base HOR.out.own hb).2
                omega
            have m0 : wu.cell? ⟨hB, 1, none⟩ = some (.slice ha k hc) := cell_of HORU.out.row 1
            have n0 := cell_of HXR.out 0
            have n1 := cell_of HXR.out 1
            have n2 := cell_of HXR.out 2
            have n3 := cell_of HXR.out 3
            have n4 := cell_of HXR.out 4
            have n5 := cell_of HXR.out 5
            have n6 := cell_of HXR.out 6
            have n7 := cell_of HXR.out 7
            have n8 := cell_of HXR.out 8
            have n9 := cell_of HXR.out 9
            have n10 := cell_of HXR.out 10
            have n11 := cell_of HXR.out 11
            have n12 := cell_of HXR.out 12
            have n13 := cell_of HXR.out 13
            have n14 := cell_of HXR.out 14
            have n15 := cell_of HXR.out 15
            obtain ⟨j8, hj8, hx0, hx1, hx2⟩ := info_parts info53
            have HAL := Lib.hid (HORU.out.grown (HGA5 wu (.cells #[.int .i64 kind, .slice ya F yc, .int .i64 nn, .float .f64 xx, .float .f64 q0, .float .f64 q1, .float .f64 q2, .float .f64 q3, .float .f64 q4, .int .i64 shape, .int .u32 step, .float .f64 gain, .int .i64 att, .int .i64 dec, .int .i64 rel, .int .i64 sus] 53)).out)
            have HSZ : Hid ((wu.alloc (.cells #[.int .i64 kind, .slice ya F yc, .int .i64 nn, .float .f64 xx, .float .f64 q0, .float .f64 q1, .float .f64 q2, .float .f64 q3, .float .f64 q4, .int .i64 shape, .int .u32 step, .float .f64 gain, .int .i64 att, .int .i64 dec, .int .i64 rel, .int .i64 sus] 53)).heap.size = wu.heap.size + 1 ∧ hB < wu.heap.size) := ⟨by simp, lt_of HORU.out.row⟩
            go_upto_region 28 with (at_builtin; refine wpList_append_own_at _ rfl _ _ 22 rfl (hB + 1) 53 j8 (.agg #[.int .i64 0, .slice none 0 0, .int .i64 0, .float .f64 0, .float .f64 0, .float .f64 0, .float .f64 0, .float .f64 0, .float .f64 0, .int .i64 0, .int .u32 0, .float .f64 0, .int .i64 0, .int .i64 0, .int .i64 0, .int .i64 0]) 16 144 Try.underlying22 hj8 hx0 hx1 hx2 rfl (by decide) (.slice ha k hc) k (flC ndC ps) rfl HAL.out.own ⟨wu.heap.size, 0, none⟩ 1 1 [.int .i64 kind, .slice ya F yc, .int .i64 nn, .float .f64 xx, .float .f64 q0, .float .f64 q1, .float .f64 q2, .float .f64 q3, .float .f64 q4, .int .i64 shape, .int .u32 step, .float .f64 gain, .int .i64 att, .int .i64 dec, .int .i64 rel, .int .i64 sus] rfl rfl (fun j u' hu => by rw [show ((⟨wu.heap.size, 0, none⟩ : Addr).add j) = ⟨wu.heap.size, 0 + j, none⟩ from Addr.add_lit _ _ _, Nat.zero_add, cell_of (heap_alloc_new _ _), ← Array.getElem?_toList]; exact hu) (by simp [Value.oneCell']) (by unfold maxLen; omega) (by omega) (by have h1 := HSZ.out; unfold Hid at h1; omega) ?_; intro v11 w11 ho11 hg11 _ hb11; obtain ⟨oa3, oc3, rfl⟩ := own_slice ho11; have HO11 := Lib.hid ho11; have HG11 := Lib.hid hg11; have HB11 := Lib.hid hb11; have HR11 := row_kept hg11 HAL.out.row (fun e => by have := (own_base HAL.out.own e.symm).1; omega); have t0 : w11.cell? ⟨hB, 1, none⟩ = some (.slice ha k hc) := cell_of HR11 1; have tf := free_of HR11 1; clear ho11 hg11 hb11 HR11)
            have HPN : Hid (OrS (hB + 1) wz (w11.setCell ⟨hB, 1, none⟩ (.slice oa3 (k + 1) oc3)) hB ins (k + 1) oa3 oc3 (ps ++ [(mvN tl x, .slice ya F yc)]) ((permG g os tl).nodes.take (k + 1)) (fun b => Q b ∨ (Value.slice ya F yc).ownBlock = some b)) := by
              unfold Hid
              rw [HPX.out]
              refine HAL.out.push (by rw [HNDC.out]; exact HO11.out) HG11.out HB11.out ?_ (fun b hb => ?_)
              · have h := own_kept HOWF.out (HGA5 wu (.cells #[.int .i64 kind, .slice ya F yc, .int .i64 nn, .float .f64 xx, .float .f64 q0, .float .f64 q1, .float .f64 q2, .float .f64 q3, .float .f64 q4, .int .i64 shape, .int .u32 step, .float .f64 gain, .int .i64 att, .int .i64 dec, .int .i64 rel, .int .i64 sus] 53)).out
                exact sla_of_own iC_len (by rw [HML.out]; exact h) _ (fun b hb => hb)
              · have h := own_base HOWF.out hb
                have h2 := HSZ.out
                have h3 := HHX.out
                unfold Hid at h2 h3
                refine ⟨by omega, by omega, fun e => ?_⟩
                have := h3.2 b e
                omega
            have HRN : Hid (∀ j, j < k + 1 → ∀ x, g.nodes[os.getD j 0]? = some x → ∀ z ∈ x.from_, 0 ≤ z ∧ z < (C : Int)) := fun j hj x' hx' z hz => by
              by_cases hjk : j = k
              · rw [hjk, HIK.out, HX.out] at hx'
                injection hx' with hx'
                have h := HXE.out
                unfold Hid at h
                rw [← hx', ← h] at hz
                exact HRQ.out z hz
              · exact HRF.out j (by omega) x' hx' z hz
            clear t0 tf m0 n0 n1 n2 n3 n4 n5 n6 n7 n8 n9 n10 n11 n12 n13 n14 n15
            go_wp2_with fail
            refine ⟨?_, by simp [intOf]; omega⟩
            first
              | exact ⟨k + 1, _, _, _, _, by omega, rfl, HPN.out, HRN.out⟩
              | (repeat apply Exists.intro
                 refine ⟨?_, rfl⟩
                 exact ⟨k + 1, _, _, _, _, by omega, rfl, HPN.out, HRN.out⟩)
          have hql : (q : Int) < (F : Int) := by omega
          have hql2 : q < F := by omega
          have hwq : IntKind.i64.wrap ((q : Int) + 1) = (q : Int) + 1 := IntWalk.i64_in _ (by omega)
          obtain ⟨z, hz⟩ : ∃ z, fr[q]? = some z := ⟨fr[q]'(by rw [HF.out]; exact hql2), List.getElem?_eq_getElem _⟩
          obtain ⟨b7, o7, rfl, _, hcell⟩ := sla_at (HFS.out.grown HFM.out.gr) hz
          have g0 := hcell 0 _ rfl
          rw [Nat.mul_one, Nat.add_zero] at g0
          have HZ := Lib.hid hz
          clear hcell hz
          by_cases hz0 : z < 0
          · go_wp2_with fail
            go_ret
            exact ⟨rfl, grown_trans HGX.out HFM.out.gr⟩
          by_cases hzC : (C : Int) ≤ z
          · go_wp2_with fail
            go_ret
            exact ⟨rfl, grown_trans HGX.out HFM.out.gr⟩
          have hz0' : 0 ≤ z := by omega
          have hzC' : z < (C : Int) := by omega
          obtain ⟨jz, rfl⟩ := Int.eq_ofNat_of_zero_le hz0'
          have hzC2 : jz < C := by omega
          have HTW : Hid (wu.heap[tB]? = some (.cells (tl.map fun k : Nat => Value.int .i64 (k : Int)).toArray 3 (0, 0))) := row_kept HFM.out.gr (row_kept HOR.out.gr HTT.out (by simp)) (by simp)
          have p0 := st_at HTW.out (i := jz) (by rw [HTL.out]; exact hzC2)
          obtain ⟨tj, htj⟩ : ∃ tj, tl.getD jz 0 = tj := ⟨_, rfl⟩
          have HTJ : Hid (mvR tl (jz : Int) = (tj : Int)) := by
            unfold Hid mvR
            rw [Int.toNat_natCast, htj]
          rw [htj] at p0
          have v0 : wu.cell? ⟨xB, 1, none⟩ = some (.slice ya q yc) := cell_of HFM.out.row 1
          have vf := free_of HFM.out.row 1
          have HOWD : Hid (∀ w', wu.grownBy w' none → w'.ownsRow (xB + 1) 3 1 (.slice ya q yc) q (flC iC ((x.from_.take q).map (mvR tl)))) := fun w' hg => own_kept HFM.out.own hg
          have HBS : Hid (xB + 1 ≤ wu.heap.size) := lt_of HFM.out.row
          have HNO : Hid ((Value.slice ya q yc).ownBlock ≠ some xB) := fun e => by
            have h1 := (own_base HFM.out.own e).1
            omega
          have va0 : ∀ o, (wu.alloc o).cell? ⟨xB, 1, none⟩ = some (.slice ya q yc) := fun o => cell_of (row_kept (grown_alloc (grown_refl _ none) _) HFM.out.row (by simp)) 1
          have vb0 : ∀ o, (wu.alloc o).drew.cell? ⟨xB, 1, none⟩ = some (.slice ya q yc) := fun o => cell_of (row_kept (grown_drew (grown_alloc (grown_refl _ none) _)) HFM.out.row (by simp)) 1
          obtain ⟨j8, hj8, hx0, hx1, hx2⟩ := info_parts info3
          have hfl20 : q ≤ 1048576 := by omega
          clear htj hz0 hzC
          go_upto_region 25 with fail
          go_region_law (refine step_append_lies _ rfl (.tmp 112) (.tmp 117) 23 rfl (xB + 1) 3 j8 (.int .i64 0) 1 8 Try.underlying23 hj8 hx0 hx1 hx2 rfl (by decide) (.slice ya q yc) q (flC iC ((x.from_.take q).map (mvR tl))) rfl (HOWD.out _ (by repeat (first | exact grown_alloc (grown_refl _ _) _ | refine grown_drew ?_))) ⟨wu.heap.size, 0, none⟩ 1 1 [.int .i64 (tj : Int)] rfl rfl (World.news_of_block (cs := #[.int .i64 (tj : Int)]) (t := 3) (fr := (0, 0)) (by exact heap_alloc_new wu _)) (by simp [Value.oneCell']) (by decide) (by unfold maxLen; omega) (by omega) (by have := HBS.out; unfold Hid at this; simp; omega) _ rfl ?_; intro g9 cap w9 hown9 hgrow hat hlt9; have HG9 : Hid (wu.grownBy w9 (Value.slice ya q yc).ownBlock) := grown_trans (grown_none (by repeat (first | exact grown_alloc (grown_refl _ _) _ | refine grown_drew ?_)) _) hgrow; have HOWN := Lib.hid hown9; have HR9 := row_kept HG9.out HFM.out.row (fun e => HNO.out e.symm); have t0 : w9.cell? ⟨xB, 1, none⟩ = some (.slice ya q yc) := cell_of HR9 1; have tf := free_of HR9 1; clear hown9 hgrow hat hlt9 HR9)
          all_goals
            have HPU : Hid (FmS wx (w9.setCell ⟨xB, 1, none⟩ (.slice (some ⟨g9, 0, none⟩) (q + 1) cap)) xB x tl (q + 1) (some ⟨g9, 0, none⟩) cap) := by
              have h := HXE.out
              unfold Hid at h
              exact HFM.out.push (k := (jz : Int)) (by rw [← h]; exact HZ.out) (by rw [HTJ.out]; exact HOWN.out) HG9.out
            have HRN : Hid (∀ z ∈ fr.take (q + 1), 0 ≤ z ∧ z < (C : Int)) := fun z hz => by
              rw [take_next HZ.out, List.mem_append, List.mem_singleton] at hz
              rcases hz with hz | rfl
              · exact HRQ.out z hz
              · exact ⟨hz0', hzC'⟩
            clear v0 vf va0 vb0 t0 tf p0 g0
            go_wp2_with fail
            refine ⟨?_, by simp [intOf]; omega⟩
            first
              | exact ⟨q + 1, _, _, by omega, rfl, HPU.out, HRN.out⟩
              | (repeat apply Exists.intro
                 refine ⟨?_, rfl⟩
                 exact ⟨q + 1, _, _, by omega, rfl, HPU.out, HRN.out⟩)
          --F>
    --F<
    have hkl : (k : Int) < (C : Int) := by omega
    have hkl2 : k < C := by omega
    have hwk : IntKind.i64.wrap ((k : Int) + 1) = (k : Int) + 1 := IntWalk.i64_in _ (by omega)
    obtain ⟨x, hx⟩ : ∃ x, cs[k]? = some x := ⟨cs[k]'(by rw [HC.out]; exact hkl2), List.getElem?_eq_getElem _⟩
    obtain ⟨b6, o6, rfl, _, hcell⟩ := sla_at (HCS.out.grown (grown_trans HG2.out HTS.out.gr)) hx
    have hc0 := hcell 0 _ rfl
    rw [Nat.mul_one, Nat.add_zero] at hc0
    have HX := Lib.hid hx
    have HLK : Hid ((cs.take k).length = k) := by unfold Hid; rw [List.length_take, HC.out]; omega
    clear hcell hx
    by_cases hx0 : x < 0
    · go_wp2_with fail
      go_ret
      exact ⟨rfl, grown_trans HG2.out HTS.out.gr⟩
    by_cases hxC : (C : Int) ≤ x
    · go_wp2_with fail
      go_ret
      exact ⟨rfl, grown_trans HG2.out HTS.out.gr⟩
    have hx0' : 0 ≤ x := by omega
    have hxC' : x < (C : Int) := by omega
    obtain ⟨j, rfl⟩ := Int.eq_ofNat_of_zero_le hx0'
    have hjC : j < C := by omega
    have q0 := seen_at HTS.out.sr (i := j) (by rw [HTS.out.i.slen]; exact hjC)
    have q1 := free_of HTS.out.sr j
    obtain ⟨sv, hsv⟩ : ∃ sv, sn.getD j false = sv := ⟨_, rfl⟩
    rw [hsv] at q0
    have HSV := Lib.hid hsv
    clear hsv
    cases sv with
    | true =>
      go_wp2_with fail
      go_ret
      exact ⟨rfl, grown_trans HG2.out HTS.out.gr⟩
    | false =>
      have p0 := st_at HTS.out.tr (i := j) (by rw [HTS.out.i.tlen]; exact hjC)
      have p1 := free_of HTS.out.tr j
      have HNX := Lib.hid (HTS.out.next HTB.out.2.2 HTB.out.1 HTB.out.2.1 (x := (j : Int)) ⟨hx0', hxC'⟩ (by rw [Int.toNat_natCast]; exact HSV.out))
      rw [Int.toNat_natCast, HLK.out, ← take_next HX.out] at HNX
      have hne1 : ¬ sB = tB := HTB.out.2.2
      go_wp2_with fail
      refine ⟨?_, by simp [intOf]; omega⟩
      first
        | exact ⟨k + 1, _, _, by omega, rfl, HNX.out⟩
        | (repeat apply Exists.intro
           refine ⟨?_, rfl⟩
           exact ⟨k + 1, _, _, by omega, rfl, HNX.out⟩)
    --F>
end Go.Proofs.Ytdliilmnfbgplaa.GOrderL
