/-
  The law's example of chapter 19: small, its postorder, lives. No condition.
-/
import Derived.Test.YtmhkacafilpliaaJQ
import Derived.Test.YtmhkacafilpliaaV9
namespace Go.Proofs.Ytmhkacafilpliaa
open Go.RowKit Go.Sort Go.Shelf

def s9x : Val := ⟨3, ⟨#[120]⟩, [], []⟩
def s9n : Val := ⟨4, ⟨#[49]⟩, [], []⟩
def s9l : Val := ⟨7, ⟨#[]⟩, [s9n], []⟩
def s9V : Val := ⟨8, ⟨#[]⟩, [s9l, s9x], [⟨#[98]⟩, ⟨#[97]⟩]⟩
def s9L : List Lab := [⟨true, ⟨#[97]⟩, 3, ⟨#[120]⟩⟩, ⟨false, ⟨#[]⟩, 4, ⟨#[49]⟩⟩, ⟨true, ⟨#[98]⟩, 7, ⟨#[]⟩⟩, ⟨false, ⟨#[]⟩, 8, ⟨#[]⟩⟩]
theorem s9_may : s9V.may = true := by
  rw [← Val.may_eq, plain_within]
  simp [Val.deepR_eq, Val.plain_eq, s9V, s9l, s9n, s9x, maxL, Val.shape, ByteArray.toList_eq]
theorem s9_w : s9V.w ≤ 1000 := by
  have z0 : (⟨#[]⟩ : ByteArray).size = 0 := rfl
  have z1 : (⟨#[49]⟩ : ByteArray).size = 1 := rfl
  have z2 : (⟨#[120]⟩ : ByteArray).size = 1 := rfl
  have z3 : (⟨#[98]⟩ : ByteArray).size = 1 := rfl
  have z4 : (⟨#[97]⟩ : ByteArray).size = 1 := rfl
  simp [s9V, s9l, s9n, s9x, Val.w_eq, z0, z1, z2, z3, z4]
theorem s9_subs : s9V.subs = [⟨true, ⟨#[97]⟩, s9x⟩, ⟨true, ⟨#[98]⟩, s9l⟩] := by
  have he : [((⟨#[97]⟩ : ByteArray), s9x), (⟨#[98]⟩, s9l)] = s9V.ents := by
    refine ents_of s9V (by simp [s9V]) (List.Perm.swap _ _ _) ?_
    simp [ByteArray.toList_eq]
    decide
  unfold Val.subs
  rw [if_pos (by rfl), ← he]; rfl
theorem s9l_subs : s9l.subs = [⟨false, ⟨#[]⟩, s9n⟩] := rfl
theorem s9x_subs : s9x.subs = [] := rfl
theorem s9n_subs : s9n.subs = [] := rfl
theorem s9_labs : s9V.labs = s9L := by
  rw [Val.labs_eq, postF_succ]
  simp only [s9_subs, List.flatMap_cons, List.flatMap_nil]
  rw [postF_succ, postF_succ]
  simp only [s9x_subs, s9l_subs, List.flatMap_cons, List.flatMap_nil]
  rw [postF_succ]
  simp only [s9n_subs, List.flatMap_nil]
  rfl
theorem s9_lefts : s9V.lefts = [0, 1, 1, 0] := by
  rw [Val.lefts_eq, leftF_succ]
  simp only [s9_subs, leftsF_cons]
  rw [leftF_succ, leftF_succ]
  simp only [s9x_subs, s9l_subs, leftsF_cons]
  rw [leftF_succ]
  simp only [s9n_subs]
  rfl
def Made19 (v : Val) (w : World) (e : Ending) (w' : World) : Prop := ∃ y : AV, e = .returned y.val ∧ y.v = v ∧ y.In w' w.heap.size w'.heap.size ∧ Below w.heap.size w w'
theorem leaf19_in {w : World} {lo hi : Nat} (k : Int) (t : ByteArray) (h : 0 ≤ k ∧ k ≤ 255) : AV.In w lo hi ⟨k, t, none, 0, [], none, 0, []⟩ := ⟨SlE.nil, SlE.nil, h, fun _y hy => absurd hy List.not_mem_nil⟩
set_option maxRecDepth 100000 in
set_option maxHeartbeats 3200000 in
theorem small19_c (w : World) : Calls Try.prog 42 #[] w (Made19 s9V w) := by
  go_enter Try.func42, Try.ntmps42
  go_wp2_with fail
  refine bodyPost_ret (v := .agg #[.int .u8 8, .string ⟨#[]⟩, .slice (some ⟨w.heap.size + 1 + 1 + 1 + 1 + 1, 0, none⟩) 2 2, .slice (some ⟨w.heap.size + 1 + 1 + 1, 0, none⟩) 2 2]) (by simp [results, Try.results42, go_sem]) rfl
    ⟨⟨8, ⟨#[]⟩, some ⟨w.heap.size + 1 + 1 + 1 + 1 + 1, 0, none⟩, 2, [⟨7, ⟨#[]⟩, some ⟨w.heap.size + 1 + 1 + 1 + 1, 0, none⟩, 1, [⟨4, ⟨#[49]⟩, none, 0, [], none, 0, []⟩], none, 0, []⟩, ⟨3, ⟨#[120]⟩, none, 0, [], none, 0, []⟩],
      some ⟨w.heap.size + 1 + 1 + 1, 0, none⟩, 2, [⟨#[98]⟩, ⟨#[97]⟩]⟩, rfl, by simp [AV.v_eq, s9V, s9l, s9n, s9x], ?_, (by repeat (first | exact Below.refl _ _ | refine Below.drew ?_ | refine below_drewN ?_ _ | refine Below.alloc ?_ (by first | omega | (simp; done) | (simp; omega)) _))⟩
  generalize hA : Obj.cells #[.int .u8 8, .string ⟨#[]⟩, .slice (some ⟨w.heap.size + 1 + 1 + 1 + 1 + 1, 0, none⟩) 2 2, .slice (some ⟨w.heap.size + 1 + 1 + 1, 0, none⟩) 2 2] 26 = A
  obtain ⟨B, hB⟩ : ∃ B, B = Obj.cells #[.int .u8 4, .string ⟨#[49]⟩, .slice none 0 0, .slice none 0 0] 26 := ⟨_, rfl⟩
  obtain ⟨B2, hB2⟩ : ∃ B2, B2 = Obj.cells #[.int .u8 4, .string ⟨#[49]⟩, .slice none 0 0, .slice none 0 0] 26 := ⟨_, rfl⟩
  generalize hC : Obj.cells #[.int .u8 3, .string ⟨#[120]⟩, .slice none 0 0, .slice none 0 0] 26 = C
  generalize hD : Obj.cells #[.string ⟨#[98]⟩, .string ⟨#[97]⟩] 9 = D
  generalize hE : Obj.cells #[.int .u8 7, .string ⟨#[]⟩, .slice (some ⟨w.heap.size + 1 + 1 + 1 + 1, 0, none⟩) 1 1, .slice none 0 0, .int .u8 3, .string ⟨#[120]⟩, .slice none 0 0, .slice none 0 0] 26 = E
  have key : ∀ W, W = (((((w.alloc A).alloc B).alloc C).alloc D).alloc B2).alloc E → AV.In W w.heap.size W.heap.size ⟨8, ⟨#[]⟩, some ⟨w.heap.size + 1 + 1 + 1 + 1 + 1, 0, none⟩, 2, [⟨7, ⟨#[]⟩, some ⟨w.heap.size + 1 + 1 + 1 + 1, 0, none⟩, 1, [⟨4, ⟨#[49]⟩, none, 0, [], none, 0, []⟩], none, 0, []⟩, ⟨3, ⟨#[120]⟩, none, 0, [], none, 0, []⟩],
      some ⟨w.heap.size + 1 + 1 + 1, 0, none⟩, 2, [⟨#[98]⟩, ⟨#[97]⟩]⟩ := fun W hW => by
    have b3 : W.heap[w.heap.size + 1 + 1 + 1]? = some D := by
      rw [hW]
      exact (heap_alloc_old _ _ _ (by simp)).trans ((heap_alloc_old _ _ _ (by simp)).trans (by have := heap_alloc_new (((w.alloc A).alloc B).alloc C) D; simpa using this))
    have b4 : W.heap[w.heap.size + 1 + 1 + 1 + 1]? = some B2 := by
      rw [hW]
      exact (heap_alloc_old _ _ _ (by simp)).trans (by have := heap_alloc_new ((((w.alloc A).alloc B).alloc C).alloc D) B2; simpa using this)
    have b5 : W.heap[w.heap.size + 1 + 1 + 1 + 1 + 1]? = some E := by
      rw [hW]
      have := heap_alloc_new (((((w.alloc A).alloc B).alloc C).alloc D).alloc B2) E; simpa using this
    have hsz : W.heap.size = w.heap.size + 6 := by rw [hW]; simp
    rw [hsz]
    subst hB2 hD hE
    refine ⟨(lit_sl (enc := AV.enc) (size := 4) (l := [⟨7, ⟨#[]⟩, some ⟨w.heap.size + 1 + 1 + 1 + 1, 0, none⟩, 1, [⟨4, ⟨#[49]⟩, none, 0, [], none, 0, []⟩], none, 0, []⟩, ⟨3, ⟨#[120]⟩, none, 0, [], none, 0, []⟩]) AV.enc_len b5).widen (by omega) (by omega),
      (lit_sl (enc := strE) (size := 1) (l := [⟨#[98]⟩, ⟨#[97]⟩]) (fun _ => rfl) b3).widen (by omega) (by omega), by simp, fun y hy => ?_⟩
    simp only [List.mem_cons, List.not_mem_nil, or_false] at hy
    rcases hy with rfl | rfl
    · refine ⟨(lit_sl (enc := AV.enc) (size := 4) (l := [⟨4, ⟨#[49]⟩, none, 0, [], none, 0, []⟩]) AV.enc_len b4).widen (by omega) (by omega), SlE.nil, by simp, fun y hy => ?_⟩
      simp only [List.mem_cons, List.not_mem_nil, or_false] at hy
      rcases hy with rfl
      exact leaf19_in _ _ (by simp)
    · exact leaf19_in _ _ (by simp)
  exact key _ (by rw [hB, hB2])
theorem s9_part : partAt s9L ([0, 1, 1, 0] : List Int) 2 = some 1 ∧ partOk ([0, 1, 1, 0] : List Int) 1 2 = true ∧ partL s9L 1 2 = [⟨false, ⟨#[]⟩, 4, ⟨#[49]⟩⟩, ⟨true, ⟨#[98]⟩, 7, ⟨#[]⟩⟩] ∧ partN ([0, 1, 1, 0] : List Int) 1 2 = [0, 0] := ⟨rfl, rfl, rfl, rfl⟩
theorem ownC_sl {α : Type} {enc : α → List Value} {size : Nat} (henc : ∀ x, (enc x).length = size) (_hs0 : 0 < size) {w : World} {base e cap : Nat} {a : Option Addr} {l : List α} (h : OwnC w base e size a l.length cap (l.flatMap enc)) : SlE enc size w base w.heap.size a l := fun hl => by
  obtain ⟨h1, h2, h3⟩ := h
  obtain ⟨g, cur, e1, hb, hh, hc, ht⟩ := h3 (by omega)
  have hg : g < w.heap.size := by
    rcases Nat.lt_or_ge g w.heap.size with h | h
    · exact h
    · rw [Array.getElem?_eq_none h] at hh; cases hh
  refine ⟨g, 0, e1, hb, hg, hg, fun i x hx j u hu => ?_⟩
  have hj : j < size := by rw [← henc x]; exact (List.getElem?_eq_some_iff.1 hu).1
  have hi : i < l.length := (List.getElem?_eq_some_iff.1 hx).1
  have hlt : i * size + j < l.length * size := by
    have := Nat.mul_le_mul_right size (show i + 1 ≤ l.length by omega)
    rw [Nat.add_mul] at this; omega
  rw [show 0 + i * size + j = i * size + j by omega]
  have h5 : (l.flatMap enc)[i * size + j]? = some u := by rw [flat_get henc l i j x hx hj, hu]
  rw [← ht, List.getElem?_take, if_pos hlt] at h5
  simp only [World.cell?, hh]
  simpa using h5
/-- What posts.Of and posts.Part leave, as a postorder that lies in memory. -/
abbrev intsL (l : List Nat) : List Int := l.map fun n : Nat => (n : Int)
theorem post_rd {w : World} {base : Nat} {al af ar : Option Addr} {n m r : Nat} {L : List Lab} {F R : List Nat} (h1 : OwnC w base 46 4 al n n (L.flatMap Lab.enc)) (h2 : OwnC w base 3 1 af m m (F.flatMap natE)) (h3 : OwnC w base 3 1 ar r r (R.flatMap natE)) (e1 : n = L.length) (e2 : m = F.length) (e3 : r = R.length)
    (hL : L.length ≤ 2097152) (hF : F.length ≤ 2097152) (hR : R.length ≤ 2097152) : PA.Rd ⟨al, n, af, m, ar, r, L, F.map fun n : Nat => (n : Int), R.map fun n : Nat => (n : Int)⟩ w := by
  subst e1 e2 e3
  exact ⟨(ownC_sl (size := 4) (fun _ => rfl) (by omega) h1).widen (Nat.zero_le _) (Nat.le_refl _), nat_int F ((ownC_sl (size := 1) (fun _ => rfl) (by omega) h2).widen (Nat.zero_le _) (Nat.le_refl _)), nat_int R ((ownC_sl (size := 1) (fun _ => rfl) (by omega) h3).widen (Nat.zero_le _) (Nat.le_refl _)), by simp; omega⟩
theorem lit_int {W : World} (l : List Int) {o : Obj} (h : o = .cells (l.flatMap i64Z).toArray 3 (0, 0)) : SlE i64Z 1 (W.alloc o) 0 (W.alloc o).heap.size (some ⟨W.heap.size, 0, none⟩) l := by
  subst h
  exact (lit_sl (enc := i64Z) (size := 1) (l := l) (t := 3) (fr := (0, 0)) (fun _ => rfl) (heap_alloc_new W _)).widen (Nat.zero_le _) (by simp)
def s9P : List Lab := [⟨false, ⟨#[]⟩, 4, ⟨#[49]⟩⟩, ⟨true, ⟨#[98]⟩, 7, ⟨#[]⟩⟩]
def SmallOf (w : World) (e : Ending) (w' : World) : Prop := ∃ al af ar, e = .returned (.tuple #[.agg #[.slice al 4 4, .slice af 4 4, .slice ar 2 2], .bool true]) ∧ PA.Rd ⟨al, 4, af, 4, ar, 2, s9L, [0, 1, 1, 0], [2, 3]⟩ w' ∧ Below w.heap.size w w'
theorem small_of (w : World) (y : AV) (hy : Rd w y) (hv : y.v = s9V) : Calls Try.prog 15 #[y.val] w (SmallOf w) := by
  refine (pof_c w y hy (by show y.v.w ≤ _; rw [hv]; have := s9_w; omega)).mono ?_
  rintro e w' ⟨al, af, ar, n, r, rfl, hn, hr, h1, -, hb⟩
  rw [hv] at hn hr h1 ⊢
  obtain ⟨g1, g2, g3⟩ := h1 s9_may
  clear h1
  rw [s9_may, if_pos rfl, s9_labs] at hn
  rw [s9_may, if_pos rfl, s9_lefts] at hr
  rw [s9_labs] at g1
  rw [s9_lefts] at g2 g3
  have e1 : n = 4 := hn
  have e2 : r = 2 := hr
  subst e1 e2
  rw [s9_may]
  exact ⟨al, af, ar, rfl, post_rd (L := s9L) (F := [0, 1, 1, 0]) (R := [2, 3]) g1 g2 g3 rfl rfl rfl (by decide) (by decide) (by decide), hb⟩
def SmallPart (w : World) (e : Ending) (w' : World) : Prop := ∃ al af ar, e = .returned (.tuple #[.agg #[.slice al 2 2, .slice af 2 2, .slice ar 1 1], .bool true]) ∧ PA.Rd ⟨al, 2, af, 2, ar, 1, s9P, [0, 0], [1]⟩ w' ∧ Below w.heap.size w w'
theorem small_part (w : World) (al af ar : Option Addr) (h : PA.Rd ⟨al, 4, af, 4, ar, 2, s9L, [0, 1, 1, 0], [2, 3]⟩ w) : Calls Try.prog 19 #[.agg #[.slice al 4 4, .slice af 4 4, .slice ar 2 2], .int .i64 2] w (SmallPart w) := by
  refine (part_c w s9L [0, 1, 1, 0] al af ar 4 4 2 2 2 h.l (by decide) h.f (by decide) (by decide)).mono ?_
  obtain ⟨p1, p2, p3, p4⟩ := s9_part
  rintro e w' ⟨hb, ⟨f, hp, -, al', af', ar', m, hm, rfl, h1, h2, h3⟩ | ⟨hn, -⟩⟩
  · rw [p1] at hp
    cases hp
    have e1 : m = 2 := hm
    subst e1
    rw [p3] at h1
    rw [p4] at h2 h3
    exact ⟨al', af', ar', rfl, post_rd (L := s9P) (F := [0, 0]) (R := [1]) h1 h2 h3 rfl rfl rfl (by decide) (by decide) (by decide), hb⟩
  · have h4 := hn 1 p1
    rw [show (2 : Int).toNat + 1 - 1 = 2 from rfl, p2] at h4
    cases h4
end Go.Proofs.Ytmhkacafilpliaa
