/- What a filter computes, seen by itself: silence, signs, pieces. Plain laws, no walk. -/
import Derived.Test.YtonpopiofmojnaaFStrain
namespace Go.Proofs.Ytonpopiofmojnaa.FLaws
open Go Go.Proofs.Ytonpopiofmojnaa.Fl Go.Proofs.Ytonpopiofmojnaa.FRun Go.Proofs.Ytonpopiofmojnaa.FNew Go.Proofs.Ytonpopiofmojnaa.FStrain

/-- Two memories that part in the signs of noughts alone. -/
def Zs (s t : St) : Prop := zr s.x1 = zr t.x1 ∧ zr s.x2 = zr t.x2 ∧ zr s.y1 = zr t.y1 ∧ zr s.y2 = zr t.y2

theorem out_zs {c : Co} {s t : St} (h : Zs s t) (x : Nat) : zr (out c s x) = zr (out c t x) := by
  obtain ⟨h1, h2, h3, h4⟩ := h
  exact zsub_eq (zsub_eq (zadd_eq (zadd_eq rfl (zmul_eq rfl h1)) (zmul_eq rfl h2)) (zmul_eq rfl h3)) (zmul_eq rfl h4)

theorem nxt_zs {c : Co} {s t : St} (h : Zs s t) (x : Nat) : Zs (nxt c s x) (nxt c t x) := ⟨rfl, h.1, out_zs h x, h.2.2.1⟩

theorem outs_zs (c : Co) : ∀ (xs : List Nat) {s t : St}, Zs s t → (outs c s xs).map zr = (outs c t xs).map zr
  | [], _, _, _ => rfl
  | x :: l, s, t, h => by
    simp only [outs, List.map_cons]
    rw [out_zs h x, outs_zs c l (nxt_zs h x)]

theorem okc_number {x : Nat} (h : okc x = true) : ∃ s m p, D.read x = .number s m p := by
  unfold okc Ieee.Format.order at h
  have h1 : D.read 13929633647456944128 = .number true 4503599627370496 (-30) := by decide +kernel
  have h2 : D.read 4706261610602168320 = .number false 4503599627370496 (-30) := by decide +kernel
  rw [h1, h2] at h
  cases hx : D.read x with
  | number s m p => exact ⟨s, m, p, rfl⟩
  | infinity s => rw [hx] at h; cases s <;> simp [Ieee.Datum.order] at h
  | nan s f => rw [hx] at h; simp [Ieee.Datum.order] at h

theorem zero_mag (s : Bool) (p : Int) : zr (D.write (.number s 0 p)) = zr 0 := by
  unfold Ieee.Format.write Ieee.Format.nearest
  simp only [if_true]
  cases s <;> decide +kernel

theorem read_zero {x : Nat} (h : zr x = zr 0) : ∃ s, D.read x = .number s 0 (-1074) := by
  have h0 : zr 0 = .number false 0 (-1074) := by decide +kernel
  rw [h0] at h
  unfold zr at h
  cases hx : D.read x with
  | number s m p =>
    rw [hx] at h
    simp only [z, Ieee.Datum.number.injEq] at h
    obtain ⟨_, rfl, rfl⟩ := h
    exact ⟨s, rfl⟩
  | infinity s => rw [hx] at h; simp [z] at h
  | nan s f => rw [hx] at h; simp [z] at h

theorem mul_zero {x y : Nat} (h : okc x = true) (hy : zr y = zr 0) : zr (fmul x y) = zr 0 := by
  obtain ⟨s, m, p, hx⟩ := okc_number h
  obtain ⟨t, hy⟩ := read_zero hy
  unfold fmul Ieee.Format.mul
  rw [hx, hy, zr_cno]
  simp only [Ieee.Datum.product, Option.map_some, Nat.mul_zero]
  exact zero_mag _ _

theorem add_zero {x y : Nat} (hx : zr x = zr 0) (hy : zr y = zr 0) : zr (fadd x y) = zr 0 := by
  obtain ⟨s, hx⟩ := read_zero hx
  obtain ⟨t, hy⟩ := read_zero hy
  unfold fadd Ieee.Format.add
  rw [hx, hy, zr_cno]
  simp only [Ieee.Datum.sum, Option.map_some, signed_zero]
  exact zero_mag _ _

theorem sub_zero {x y : Nat} (hx : zr x = zr 0) (hy : zr y = zr 0) : zr (fsub x y) = zr 0 := by
  obtain ⟨s, hx⟩ := read_zero hx
  obtain ⟨t, hy⟩ := read_zero hy
  unfold fsub Ieee.Format.sub
  rw [hx, hy, zr_cno]
  simp only [Ieee.Datum.opposite, Ieee.Datum.sum, Option.map_some, signed_zero]
  exact zero_mag _ _

structure Ok (c : Co) : Prop where
  b0 : okc c.b0 = true
  b1 : okc c.b1 = true
  b2 : okc c.b2 = true
  a1 : okc c.a1 = true
  a2 : okc c.a2 = true

theorem ok_of {c : Co} (h : okAll c = true) : Ok c := by
  unfold okAll at h
  simp only [Bool.and_eq_true] at h
  obtain ⟨⟨⟨⟨h0, h1⟩, h2⟩, h3⟩, h4⟩ := h
  exact ⟨h0, h1, h2, h3, h4⟩

theorem out_silent {c : Co} {s : St} (h : Ok c) (hs : Zs s rest0) : zr (out c s 0) = zr 0 := by
  obtain ⟨h1, h2, h3, h4⟩ := hs
  exact sub_zero (sub_zero (add_zero (add_zero (mul_zero h.b0 rfl) (mul_zero h.b1 h1)) (mul_zero h.b2 h2)) (mul_zero h.a1 h3)) (mul_zero h.a2 h4)

theorem nxt_silent {c : Co} {s : St} (h : Ok c) (hs : Zs s rest0) : Zs (nxt c s 0) rest0 :=
  ⟨by show zr (cn 0) = zr 0; rw [cn_zero], hs.1, out_silent h hs, hs.2.2.1⟩

/-- Silence in, silence out; and it is at rest behind it. -/
theorem silent {c : Co} (h : Ok c) : ∀ (n : Nat) {s : St}, Zs s rest0 → (∀ y ∈ outs c s (List.replicate n 0), zr y = zr 0) ∧ Zs (fin c s (List.replicate n 0)) rest0
  | 0, s, hs => ⟨by intro y hy; simp [outs] at hy, hs⟩
  | n + 1, s, hs => by
    obtain ⟨h1, h2⟩ := silent h n (nxt_silent h hs)
    simp only [List.replicate_succ, outs, fin, List.mem_cons]
    refine ⟨?_, h2⟩
    rintro y (rfl | hy)
    · exact out_silent h hs
    · exact h1 y hy

/-- One memory is the other, turned round. -/
def Ns (s t : St) : Prop := zr s.x1 = zr (fneg t.x1) ∧ zr s.x2 = zr (fneg t.x2) ∧ zr s.y1 = zr (fneg t.y1) ∧ zr s.y2 = zr (fneg t.y2)

theorem neg_of {x y : Nat} (h : zr x = z (zr y).opposite) : zr x = zr (fneg y) := by rw [h, read_neg_z]

theorem mul_neg {c x y : Nat} (h : zr x = zr (fneg y)) : zr (fmul c x) = zr (fneg (fmul c y)) := by
  rw [zmul_eq rfl h]; exact neg_of (zmul_neg c y)
theorem add_neg {a b x y : Nat} (h : zr a = zr (fneg x)) (k : zr b = zr (fneg y)) : zr (fadd a b) = zr (fneg (fadd x y)) := by
  rw [zadd_eq h k]; exact neg_of (zadd_neg x y)
theorem sub_neg {a b x y : Nat} (h : zr a = zr (fneg x)) (k : zr b = zr (fneg y)) : zr (fsub a b) = zr (fneg (fsub x y)) := by
  rw [zsub_eq h k]; exact neg_of (zsub_neg x y)

theorem out_ns {c : Co} {s t : St} (h : Ns s t) {x y : Nat} (hx : zr x = zr (fneg y)) : zr (out c s x) = zr (fneg (out c t y)) := by
  obtain ⟨h1, h2, h3, h4⟩ := h
  exact sub_neg (sub_neg (add_neg (add_neg (mul_neg hx) (mul_neg h1)) (mul_neg h2)) (mul_neg h3)) (mul_neg h4)

theorem cn_neg (x : Nat) : zr (fneg (cn x)) = zr (fneg x) := zneg_eq (zr_cn x)

theorem nxt_ns {c : Co} {s t : St} (h : Ns s t) {x y : Nat} (hx : zr x = zr (fneg y)) : Ns (nxt c s x) (nxt c t y) :=
  ⟨by show zr (cn x) = zr (fneg (cn y)); rw [zr_cn, cn_neg, hx], h.1, out_ns h hx, h.2.2.1⟩

/-- Turned round it comes out turned round. -/
theorem turned (c : Co) : ∀ (ys : List Nat) {s t : St}, Ns s t → (outs c s (ys.map fneg)).map zr = (outs c t ys).map fun y => zr (fneg y)
  | [], _, _, _ => rfl
  | y :: l, s, t, h => by
    simp only [List.map_cons, outs]
    rw [out_ns h rfl, turned c l (nxt_ns h rfl)]

theorem rest_ns : Ns rest0 rest0 := by
  have h : zr 0 = zr (fneg 0) := by decide +kernel
  exact ⟨h, h, h, h⟩

theorem rest_zs : Zs rest0 rest0 := ⟨rfl, rfl, rfl, rfl⟩

/-- In pieces or at once: the same. -/
theorem pieces (c : Co) (rest : Int) : ∀ (ps : List (List Nat)) (i : Nat) (s : St), rest < i → (strains c rest i s ps).flatten = outs c s ps.flatten
  | [], _, _, _ => rfl
  | p :: l, i, s, h => by
    simp only [strains, List.flatten_cons]
    rw [if_neg (by omega), outs_append, pieces c rest l (i + 1) _ (by omega)]

theorem signs_eq {c : Co} {xs ya zc : List Nat} (hy : ya.map cn = outs c rest0 xs) (hz : zc.map cn = outs c rest0 (xs.map fneg)) {i y z : Nat} (h1 : ya[i]? = some y) (h2 : zc[i]? = some z) : eqB (fneg y) z = true := by
  have h := turned c xs rest_ns
  rw [← hy, ← hz] at h
  have h3 := congrArg (·[i]?) h
  simp only [List.getElem?_map, h1, h2, Option.map_some, Option.some.injEq] at h3
  rw [zr_cn, cn_neg] at h3
  exact eqB_of h3.symm

theorem later_zero {c : Co} (h : Ok c) {n : Nat} {zs : List Nat} (hz : zs.map cn = outs c rest0 (List.replicate n 0)) {i y : Nat} (h1 : zs[i]? = some y) : (D.order y 0 == some .eq) = true := by
  have h2 := (silent h n rest_zs).1
  rw [← hz] at h2
  have h3 := h2 (cn y) (List.mem_map.2 ⟨y, List.mem_of_getElem? h1, rfl⟩)
  rw [zr_cn] at h3
  have h4 : nan y = false := by rw [nan_of_zr h3]; decide +kernel
  rw [order_self_of h3 h4]
  rfl

theorem later_eq {c : Co} (h : Ok c) {n : Nat} {xs ya zs : List Nat} (hy : ya.map cn = outs c rest0 xs) (hz : zs.map cn = outs c (fin c rest0 (List.replicate n 0)) xs) {i y z : Nat} (h1 : ya[i]? = some y) (h2 : zs[i]? = some z) :
    eqB y z = true := by
  have h3 := outs_zs c xs (silent h n rest_zs).2
  rw [← hy, ← hz] at h3
  have h4 := congrArg (·[i]?) h3
  simp only [List.getElem?_map, h1, h2, Option.map_some, Option.some.injEq] at h4
  rw [zr_cn, zr_cn] at h4
  exact eqB_of h4.symm

theorem strains_length (c : Co) (rest : Int) : ∀ (ps : List (List Nat)) (i : Nat) (s : St), (strains c rest i s ps).length = ps.length
  | [], _, _ => rfl
  | p :: l, i, s => by simp only [strains, List.length_cons]; rw [strains_length c rest l (i + 1)]

end Go.Proofs.Ytonpopiofmojnaa.FLaws
