/-
  Two lists of numbers compared. Conditions: they lie in memory; one of them has at most 2^62 numbers.
  Two postorders compared. Conditions: they lie in memory, of at most 2^21 nodes.
  The law's example of chapter 19: small, its postorder, lives. No condition.
-/
import Derived.Test.YtmhkacafilpliaaGreatJN
import Derived.BigQuiet
import Derived.Test.YtmhkacafilpliaaGreatV9
namespace Go.Proofs.YtmhkacafilpliaaGreat
open Go.RowKit Go.Sort Go.Shelf

theorem nat_int (l : List Nat) {w : World} {lo hi : Nat} {a : Option Addr} (h : SlE natE 1 w lo hi a l) : SlE i64Z 1 w lo hi a (l.map fun n : Nat => (n : Int)) := fun hl => by
  rw [List.length_map] at hl
  obtain ⟨b, off, e, g1, g2, g3, g4⟩ := h hl
  refine ⟨b, off, e, g1, g2, g3, fun i x hx k u hk => ?_⟩
  rw [List.getElem?_map] at hx
  cases hli : l[i]? with
  | none => rw [hli] at hx; cases hx
  | some n =>
    rw [hli] at hx
    simp only [Option.map_some, Option.some.injEq] at hx
    subst hx
    exact g4 i n hli k u hk
theorem nat_cast_inj {l l' : List Nat} : (l.map fun n : Nat => (n : Int)) = (l'.map fun n : Nat => (n : Int)) ↔ l = l' := by
  constructor
  · intro h
    refine List.map_inj_right (f := fun n : Nat => (n : Int)) (fun a b h => ?_) |>.1 h
    exact Int.ofNat_inj.1 h
  · rintro rfl; rfl
theorem take_eq {α : Type} {l l' : List α} (hl : l.length = l'.length) (h : ∀ j, j < l.length → l[j]? = l'[j]?) : l = l' := by
  apply List.ext_getElem?
  intro j
  rcases Nat.lt_or_ge j l.length with hj | hj
  · exact h j hj
  · rw [List.getElem?_eq_none hj, List.getElem?_eq_none (by omega)]
end Go.Proofs.YtmhkacafilpliaaGreat

namespace Go.Proofs.YtmhkacafilpliaaGreat
open Go.RowKit Go.Sort Go.Shelf

abbrev Lab.val (l : Lab) : Value := .agg #[.bool l.kd, .string l.key, .int .u8 l.k, .string l.t]
theorem bytes_list {x y : ByteArray} : x.toList = y.toList ↔ x = y := by
  constructor
  · intro h
    rw [ByteArray.toList_eq, ByteArray.toList_eq] at h
    exact ByteArray.ext (Array.toList_inj.1 h)
  · rintro rfl; rfl
theorem lab_dec (c d : Lab) : decide (c = d) = decide (c.kd = d.kd ∧ c.key.toList = d.key.toList ∧ c.k = d.k ∧ c.t.toList = d.t.toList) := by
  obtain ⟨c1, c2, c3, c4⟩ := c
  obtain ⟨d1, d2, d3, d4⟩ := d
  simp only [Lab.mk.injEq, bytes_list]
set_option maxRecDepth 100000 in
set_option maxHeartbeats 3200000 in
theorem eqi_lab (w : World) (c d : Lab) : (Op.equalIn 10000 110 c.val d.val).run Tryz.prog w = .ok (decide (c = d)) w := by
  rw [lab_dec]
  simp [go_sem]
  repeat' split
  all_goals simp_all
theorem neq_lab (w : World) (c d : Lab) : (binOp .neq 110 c.val d.val).run Tryz.prog w = .ok (.bool (!decide (c = d))) w := by
  rw [run_neq_struct, eqi_lab]; rfl
theorem eql_lab (w : World) (c d : Lab) : (binOp .eql 110 c.val d.val).run Tryz.prog w = .ok (.bool (decide (c = d))) w := by
  rw [run_eql_struct, eqi_lab]; rfl
theorem lab_at {w : World} {lo hi : Nat} {a : Option Addr} {l : List Lab} (h : SlE Lab.enc 4 w lo hi a l) {k : Nat} {y : Lab} (hk : l[k]? = some y) :
    ∃ b off, a = some ⟨b, off, none⟩ ∧ lo ≤ b ∧ b < hi ∧ b < w.heap.size ∧ w.cell? ⟨b, off + k * 4, none⟩ = some (.bool y.kd) ∧ w.cell? ⟨b, off + k * 4 + 1, none⟩ = some (.string y.key) ∧ w.cell? ⟨b, off + k * 4 + 2, none⟩ = some (.int .u8 y.k) ∧ w.cell? ⟨b, off + k * 4 + 3, none⟩ = some (.string y.t) := by
  have hl : k < l.length := (List.getElem?_eq_some_iff.1 hk).1
  obtain ⟨b, off, e, g1, g2, g3, g4⟩ := h (by omega)
  exact ⟨b, off, e, g1, g2, g3, g4 k y hk 0 _ rfl, g4 k y hk 1 _ rfl, g4 k y hk 2 _ rfl, g4 k y hk 3 _ rfl⟩
/-- A postorder that lies in memory. -/
structure PA where
  al : Option Addr
  cl : Nat
  af : Option Addr
  cf : Nat
  ar : Option Addr
  cr : Nat
  L : List Lab
  F : List Int
  R : List Int
abbrev PA.box (p : PA) : Array Value := pBox p.al p.L.length p.cl p.af p.F.length p.cf p.ar p.R.length p.cr
structure PA.Rd (p : PA) (w : World) : Prop where
  l : SlE Lab.enc 4 w 0 w.heap.size p.al p.L
  f : SlE i64Z 1 w 0 w.heap.size p.af p.F
  r : SlE i64Z 1 w 0 w.heap.size p.ar p.R
  n : p.L.length ≤ 2097152 ∧ p.F.length ≤ 2097152 ∧ p.R.length ≤ 2097152
theorem PA.Rd.up {p : PA} {w w' : World} (h : p.Rd w) (hb : Below w.heap.size w w') : p.Rd w' := ⟨(h.l.up hb).widen (Nat.le_refl _) (Nat.le_refl _), (h.f.up hb).widen (Nat.le_refl _) (Nat.le_refl _), (h.r.up hb).widen (Nat.le_refl _) (Nat.le_refl _), h.n⟩
theorem like_dec {L L' : List Lab} {F F' R R' : List Int} {b : Bool} (h : b = true ↔ L = L' ∧ F = F' ∧ R = R') : Value.bool (decide (L = L' ∧ F = F' ∧ R = R')) = .bool b := by
  cases b
  · rw [decide_eq_false (fun hh => by have := h.2 hh; cases this)]
  · rw [decide_eq_true (h.1 rfl)]
end Go.Proofs.YtmhkacafilpliaaGreat

namespace Go.Proofs.YtmhkacafilpliaaGreat
open Go.RowKit Go.Sort Go.Shelf

def s9x : Val := ⟨3, ⟨#[120]⟩, [], []⟩
def s9n : Val := ⟨4, ⟨#[49]⟩, [], []⟩
def s9l : Val := ⟨7, ⟨#[]⟩, [s9n], []⟩
def s9V : Val := ⟨8, ⟨#[]⟩, [s9l, s9x], [⟨#[98]⟩, ⟨#[97]⟩]⟩
def s9L : List Lab := [⟨true, ⟨#[97]⟩, 3, ⟨#[120]⟩⟩, ⟨false, ⟨#[]⟩, 4, ⟨#[49]⟩⟩, ⟨true, ⟨#[98]⟩, 7, ⟨#[]⟩⟩, ⟨false, ⟨#[]⟩, 8, ⟨#[]⟩⟩]
theorem s9_may : s9V.may = true := by
  rw [← Val.may_eq, plain_within]
  simp [Val.deepR_eq, Val.plain_eq, s9V, s9l, s9n, s9x, maxL, Val.shape, ByteArray.toList_eq]
theorem s9_w : s9V.w ≤ 1000 := by
  have z0 : (⟨#[]⟩ : ByteArray).size = 0 := rfl
  have z1 : (⟨#[49]⟩ : ByteArray).size = 1 := rfl
  have z2 : (⟨#[120]⟩ : ByteArray).size = 1 := rfl
  have z3 : (⟨#[98]⟩ : ByteArray).size = 1 := rfl
  have z4 : (⟨#[97]⟩ : ByteArray).size = 1 := rfl
  simp [s9V, s9l, s9n, s9x, Val.w_eq, z0, z1, z2, z3, z4]
theorem s9_subs : s9V.subs = [⟨true, ⟨#[97]⟩, s9x⟩, ⟨true, ⟨#[98]⟩, s9l⟩] := by
  have he : [((⟨#[97]⟩ : ByteArray), s9x), (⟨#[98]⟩, s9l)] = s9V.ents := by
    refine ents_of s9V (by simp [s9V]) (List.Perm.swap _ _ _) ?_
    simp [ByteArray.toList_eq]
    decide
  unfold Val.subs
  rw [if_pos (by rfl), ← he]; rfl
theorem s9l_subs : s9l.subs = [⟨false, ⟨#[]⟩, s9n⟩] := rfl
theorem s9x_subs : s9x.subs = [] := rfl
theorem s9n_subs : s9n.subs = [] := rfl
theorem s9_labs : s9V.labs = s9L := by
  rw [Val.labs_eq, postF_succ]
  simp only [s9_subs, List.flatMap_cons, List.flatMap_nil]
  rw [postF_succ, postF_succ]
  simp only [s9x_subs, s9l_subs, List.flatMap_cons, List.flatMap_nil]
  rw [postF_succ]
  simp only [s9n_subs, List.flatMap_nil]
  rfl
theorem s9_lefts : s9V.lefts = [0, 1, 1, 0] := by
  rw [Val.lefts_eq, leftF_succ]
  simp only [s9_subs, leftsF_cons]
  rw [leftF_succ, leftF_succ]
  simp only [s9x_subs, s9l_subs, leftsF_cons]
  rw [leftF_succ]
  simp only [s9n_subs]
  rfl
def Made19 (v : Val) (w : World) (e : Ending) (w' : World) : Prop := ∃ y : AV, e = .returned y.val ∧ y.v = v ∧ y.In w' w.heap.size w'.heap.size ∧ Below w.heap.size w w'
theorem leaf19_in {w : World} {lo hi : Nat} (k : Int) (t : ByteArray) (h : 0 ≤ k ∧ k ≤ 255) : AV.In w lo hi ⟨k, t, none, 0, [], none, 0, []⟩ := ⟨SlE.nil, SlE.nil, h, fun _y hy => absurd hy List.not_mem_nil⟩
theorem s9_part : partAt s9L ([0, 1, 1, 0] : List Int) 2 = some 1 ∧ partOk ([0, 1, 1, 0] : List Int) 1 2 = true ∧ partL s9L 1 2 = [⟨false, ⟨#[]⟩, 4, ⟨#[49]⟩⟩, ⟨true, ⟨#[98]⟩, 7, ⟨#[]⟩⟩] ∧ partN ([0, 1, 1, 0] : List Int) 1 2 = [0, 0] := ⟨rfl, rfl, rfl, rfl⟩
theorem ownC_sl {α : Type} {enc : α → List Value} {size : Nat} (henc : ∀ x, (enc x).length = size) (_hs0 : 0 < size) {w : World} {base e cap : Nat} {a : Option Addr} {l : List α} (h : OwnC w base e size a l.length cap (l.flatMap enc)) : SlE enc size w base w.heap.size a l := fun hl => by
  obtain ⟨h1, h2, h3⟩ := h
  obtain ⟨g, cur, e1, hb, hh, hc, ht⟩ := h3 (by omega)
  have hg : g < w.heap.size := by
    rcases Nat.lt_or_ge g w.heap.size with h | h
    · exact h
    · rw [Array.getElem?_eq_none h] at hh; cases hh
  refine ⟨g, 0, e1, hb, hg, hg, fun i x hx j u hu => ?_⟩
  have hj : j < size := by rw [← henc x]; exact (List.getElem?_eq_some_iff.1 hu).1
  have hi : i < l.length := (List.getElem?_eq_some_iff.1 hx).1
  have hlt : i * size + j < l.length * size := by
    have := Nat.mul_le_mul_right size (show i + 1 ≤ l.length by omega)
    rw [Nat.add_mul] at this; omega
  rw [show 0 + i * size + j = i * size + j by omega]
  have h5 : (l.flatMap enc)[i * size + j]? = some u := by rw [flat_get henc l i j x hx hj, hu]
  rw [← ht, List.getElem?_take, if_pos hlt] at h5
  simp only [World.cell?, hh]
  simpa using h5
/-- What posts.Of and posts.Part leave, as a postorder that lies in memory. -/
abbrev intsL (l : List Nat) : List Int := l.map fun n : Nat => (n : Int)
theorem post_rd {w : World} {base : Nat} {al af ar : Option Addr} {n m r : Nat} {L : List Lab} {F R : List Nat} (h1 : OwnC w base 110 4 al n n (L.flatMap Lab.enc)) (h2 : OwnC w base 3 1 af m m (F.flatMap natE)) (h3 : OwnC w base 3 1 ar r r (R.flatMap natE)) (e1 : n = L.length) (e2 : m = F.length) (e3 : r = R.length)
    (hL : L.length ≤ 2097152) (hF : F.length ≤ 2097152) (hR : R.length ≤ 2097152) : PA.Rd ⟨al, n, af, m, ar, r, L, F.map fun n : Nat => (n : Int), R.map fun n : Nat => (n : Int)⟩ w := by
  subst e1 e2 e3
  exact ⟨(ownC_sl (size := 4) (fun _ => rfl) (by omega) h1).widen (Nat.zero_le _) (Nat.le_refl _), nat_int F ((ownC_sl (size := 1) (fun _ => rfl) (by omega) h2).widen (Nat.zero_le _) (Nat.le_refl _)), nat_int R ((ownC_sl (size := 1) (fun _ => rfl) (by omega) h3).widen (Nat.zero_le _) (Nat.le_refl _)), by simp; omega⟩
theorem lit_int {W : World} (l : List Int) {o : Obj} (h : o = .cells (l.flatMap i64Z).toArray 3 (0, 0)) : SlE i64Z 1 (W.alloc o) 0 (W.alloc o).heap.size (some ⟨W.heap.size, 0, none⟩) l := by
  subst h
  exact (lit_sl (enc := i64Z) (size := 1) (l := l) (t := 3) (fr := (0, 0)) (fun _ => rfl) (heap_alloc_new W _)).widen (Nat.zero_le _) (by simp)
def s9P : List Lab := [⟨false, ⟨#[]⟩, 4, ⟨#[49]⟩⟩, ⟨true, ⟨#[98]⟩, 7, ⟨#[]⟩⟩]
def SmallOf (w : World) (e : Ending) (w' : World) : Prop := ∃ al af ar, e = .returned (.tuple #[.agg #[.slice al 4 4, .slice af 4 4, .slice ar 2 2], .bool true]) ∧ PA.Rd ⟨al, 4, af, 4, ar, 2, s9L, [0, 1, 1, 0], [2, 3]⟩ w' ∧ Below w.heap.size w w'
theorem small_of (w : World) (y : AV) (hy : Rd w y) (hv : y.v = s9V) : Calls Tryz.prog 71 #[y.val] w (SmallOf w) := by
  refine (pof_c w y hy (by show y.v.w ≤ _; rw [hv]; have := s9_w; omega)).mono ?_
  rintro e w' ⟨al, af, ar, n, r, rfl, hn, hr, h1, -, hb⟩
  rw [hv] at hn hr h1 ⊢
  obtain ⟨g1, g2, g3⟩ := h1 s9_may
  clear h1
  rw [s9_may, if_pos rfl, s9_labs] at hn
  rw [s9_may, if_pos rfl, s9_lefts] at hr
  rw [s9_labs] at g1
  rw [s9_lefts] at g2 g3
  have e1 : n = 4 := hn
  have e2 : r = 2 := hr
  subst e1 e2
  rw [s9_may]
  exact ⟨al, af, ar, rfl, post_rd (L := s9L) (F := [0, 1, 1, 0]) (R := [2, 3]) g1 g2 g3 rfl rfl rfl (by decide) (by decide) (by decide), hb⟩
def SmallPart (w : World) (e : Ending) (w' : World) : Prop := ∃ al af ar, e = .returned (.tuple #[.agg #[.slice al 2 2, .slice af 2 2, .slice ar 1 1], .bool true]) ∧ PA.Rd ⟨al, 2, af, 2, ar, 1, s9P, [0, 0], [1]⟩ w' ∧ Below w.heap.size w w'
end Go.Proofs.YtmhkacafilpliaaGreat
