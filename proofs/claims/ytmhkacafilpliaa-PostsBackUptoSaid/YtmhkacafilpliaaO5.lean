/-
  values.Cmp and values.Same as plain functions of two values. Conditions: the trees lie in memory, their weight is bounded.
  What a key has is a part, the map with that part put in again is the same, a list of two values stands as these. Plain; condition: the values may be.
-/
import Derived.Test.YtmhkacafilpliaaO2
import Derived.Test.YtmhkacafilpliaaVC
namespace Go.Proofs.Ytmhkacafilpliaa
open Go.RowKit Go.Sort

def cmpR (a b : Val) : Int := if a.may = true ∧ b.may = true then cmpV 256 a b else 0
def sameV (a b : Val) : Bool := a.may && b.may && decide (cmpV 256 a b = 0)

theorem bx_b {w : World} {x y : AV} {w2 : World} (hb : Below ((w.alloc (.cells #[.int .u8 x.k, .string x.t, .slice x.la x.l.length x.lc, .slice x.ka x.ks.length x.kc] 26)).alloc (.cells #[.int .u8 y.k, .string y.t, .slice y.la y.l.length y.lc, .slice y.ka y.ks.length y.kc] 26)).heap.size ((w.alloc (.cells #[.int .u8 x.k, .string x.t, .slice x.la x.l.length x.lc, .slice x.ka x.ks.length x.kc] 26)).alloc (.cells #[.int .u8 y.k, .string y.t, .slice y.la y.l.length y.lc, .slice y.ka y.ks.length y.kc] 26)) w2) :
    (w2.cell? ⟨w.heap.size, 0, none⟩ = some (.int .u8 x.k) ∧ w2.cell? ⟨w.heap.size, 1, none⟩ = some (.string x.t) ∧ w2.cell? ⟨w.heap.size, 2, none⟩ = some (.slice x.la x.l.length x.lc) ∧ w2.cell? ⟨w.heap.size, 3, none⟩ = some (.slice x.ka x.ks.length x.kc)) ∧
    (w2.cell? ⟨w.heap.size + 1, 0, none⟩ = some (.int .u8 y.k) ∧ w2.cell? ⟨w.heap.size + 1, 1, none⟩ = some (.string y.t) ∧ w2.cell? ⟨w.heap.size + 1, 2, none⟩ = some (.slice y.la y.l.length y.lc) ∧ w2.cell? ⟨w.heap.size + 1, 3, none⟩ = some (.slice y.ka y.ks.length y.kc)) := by
  have h1 := vbox4 ((hb.block w.heap.size (by simp; omega)).trans ((heap_alloc_old _ _ _ (by simp)).trans (heap_alloc_new w _)))
  have h2 := heap_alloc_new (w.alloc (.cells #[.int .u8 x.k, .string x.t, .slice x.la x.l.length x.lc, .slice x.ka x.ks.length x.kc] 26)) (.cells #[.int .u8 y.k, .string y.t, .slice y.la y.l.length y.lc, .slice y.ka y.ks.length y.kc] 26)
  rw [World.size_alloc] at h2
  have h3 := vbox4 ((hb.block (w.heap.size + 1) (by simp)).trans h2)
  exact ⟨⟨h1.1, h1.2.1, h1.2.2.1, h1.2.2.2.1⟩, h3.1, h3.2.1, h3.2.2.1, h3.2.2.2.1⟩

set_option maxRecDepth 100000 in
set_option maxHeartbeats 3200000 in
theorem same_c (x y : AV) (w : World) (hx : Rd w x) (hy : Rd w y) (hwx : x.w ≤ 1048576) (hwy : y.w ≤ 1048576) : Calls Try.prog 36 #[x.val, y.val] w (Ret (.bool (sameV x.v y.v)) w) := by
  have hb1 := fun o o' => ((Below.refl w.heap.size w).alloc (Nat.le_refl _) o).alloc (by simp) o'
  have HM1 := fun W h => Lib.hid (may_c W x h hwx)
  have HM2 := fun W h => Lib.hid (may_c W y h hwy)
  have HC := fun W h1 h2 hm1 hm2 => Lib.hid (compare_c 256 W x y h1 h2 hwx hwy hm1 hm2)
  rw [Val.may_eq, Val.may_eq] at HC
  cases hm1 : x.v.may with
  | false =>
    have HF := Lib.hid (show sameV x.v y.v = false by unfold sameV; rw [hm1]; simp)
    rw [hm1] at HM1
    clear hm1 HC HM2
    go_enter Try.func36, Try.ntmps36
    go_wp2_with (go_at_call 30; refine (HM1 _ (hx.up (hb1 _ _))).out.mono ?_; rintro e w2 ⟨rfl, hb⟩)
    go_ret
    exact ⟨by rw [HF.out]; rfl, below_via (hb1 _ _) hb⟩
  | true =>
    cases hm2 : y.v.may with
    | false =>
      have HF := Lib.hid (show sameV x.v y.v = false by unfold sameV; rw [hm2]; simp)
      rw [hm1] at HM1
      rw [hm2] at HM2
      clear hm1 hm2 HC
      go_enter Try.func36, Try.ntmps36
      go_wp2_with (go_at_call 30; first
        | ((with_reducible refine (HM1 _ (hx.up (hb1 _ _))).out.mono ?_); rintro e w2 ⟨rfl, hb⟩
           have hbw := below_via (hb1 _ _) hb
           obtain ⟨⟨q0, q1, q2, q3⟩, p0, p1, p2, p3⟩ := bx_b hb)
        | ((with_reducible refine (HM2 _ (hy.up hbw)).out.mono ?_); rintro e w3 ⟨rfl, hb3⟩))
      go_ret
      exact ⟨by rw [HF.out]; rfl, below_via hbw hb3⟩
    | true =>
      have HF := Lib.hid (show sameV x.v y.v = (cmpV 256 x.v y.v == 0) by unfold sameV; rw [hm1, hm2, Bool.true_and, Bool.true_and]; rfl)
      rw [hm1] at HM1
      rw [hm2] at HM2
      have HC' := fun W h1 h2 => HC W h1 h2 hm1 hm2
      clear hm1 hm2 HC
      generalize cmpV 256 x.v y.v = R at *
      go_enter Try.func36, Try.ntmps36
      go_wp2_with (first
        | (go_at_call 30; first
            | ((with_reducible refine (HM1 _ (hx.up (hb1 _ _))).out.mono ?_); rintro e w2 ⟨rfl, hb⟩
               have hbw := below_via (hb1 _ _) hb
               obtain ⟨⟨q0, q1, q2, q3⟩, p0, p1, p2, p3⟩ := bx_b hb)
            | ((with_reducible refine (HM2 _ (hy.up hbw)).out.mono ?_); rintro e w3 ⟨rfl, hb3⟩
               have hbw3 := below_via hbw hb3
               obtain ⟨⟨r0, r1, r2, r3⟩, s0, s1, s2, s3⟩ := bx_b (hb.trans (hb3.mono hb.size))))
        | (go_at_call 58; refine (HC' _ (hx.up hbw3) (hy.up hbw3)).out.mono ?_; rintro e w4 ⟨rfl, hb4⟩))
      go_ret
      exact ⟨by rw [HF.out]; rfl, below_via hbw3 hb4⟩
end Go.Proofs.Ytmhkacafilpliaa

namespace Go.Proofs.Ytmhkacafilpliaa
open Go.RowKit Go.Sort
theorem within_more : ∀ (n : Nat) (v : Val), v.within n = true → v.within (n + 1) = true := fun n v h => by
  rw [plain_within, Bool.and_eq_true, decide_eq_true_eq] at h ⊢
  exact ⟨by omega, h.2⟩
theorem may_kid {v y : Val} (h : v.may = true) (hy : y ∈ v.l) : y.within 255 = true ∧ y.may = true := by
  rw [← Val.may_eq] at h
  have := (within_k h).2 y hy
  exact ⟨this, by rw [← Val.may_eq]; exact within_more _ _ this⟩
theorem cmpV_refl (n : Nat) (v : Val) : cmpV n v v = 0 := (cmpV_ord n).refl trivial
theorem same_refl {v : Val} (h : v.may = true) : sameV v v = true := by simp [sameV, h, cmpV_refl]
theorem le_maxL {l : List Nat} {n : Nat} (h : n ∈ l) : n ≤ maxL l := maxL_le_iff.1 (Nat.le_refl _) n h
theorem size_kid {v y : Val} (hy : y ∈ v.l) : y.size < v.size := by
  have := le_sum Val.size hy
  rw [Val.size_eq v]; omega
theorem deep_kid {v y : Val} (h : v.may = true) (hy : y ∈ v.l) : y.deep < v.deep := by
  rw [← Val.may_eq] at h
  have hk : ¬ v.k < 7 := fun hk => by rw [(shape_leaf2 (within_k h).1 hk).1] at hy; simp at hy
  have := le_maxL (List.mem_map_of_mem (f := Val.deep) hy)
  rw [Val.deep_eq v, if_neg hk]; omega
/-- What a key stands for: the map's form asks as many keys as parts, all unlike. -/
theorem keys_map {v : Val} (h : v.may = true) (hk : 0 < v.ks.length) : v.k = 8 ∧ v.t.toList = [] ∧ v.ks.length = v.l.length ∧ v.ks.Nodup := by
  rw [← Val.may_eq] at h
  have sh := (within_k h).1
  rcases shape_range sh with h7 | h7 | h8
  · rw [(shape_leaf2 sh h7).2] at hk; simp at hk
  · rw [(shape_list sh h7).2] at hk; simp at hk
  · exact ⟨h8, shape_map sh h8⟩
/-- The map without its i-th part. -/
def Val.less (v : Val) (i : Nat) : Val := ⟨8, ⟨#[]⟩, v.l.take i ++ v.l.drop (i + 1), v.ks.take i ++ v.ks.drop (i + 1)⟩
/-- ..with that part put in again, at the end. -/
def Val.again (v : Val) (i : Nat) (s : ByteArray) (y : Val) : Val := ⟨8, ⟨#[]⟩, (v.l.take i ++ v.l.drop (i + 1)) ++ [y], (v.ks.take i ++ v.ks.drop (i + 1)) ++ [s]⟩
theorem split_at {α : Type} {l : List α} {i : Nat} {x : α} (h : l[i]? = some x) : l = l.take i ++ x :: l.drop (i + 1) := by
  obtain ⟨hi, rfl⟩ := List.getElem?_eq_some_iff.1 h
  rw [← List.drop_eq_getElem_cons hi, List.take_append_drop]
theorem perm_at {α : Type} {l : List α} {i : Nat} {x : α} (h : l[i]? = some x) : ((l.take i ++ l.drop (i + 1)) ++ [x]).Perm l := by
  conv => rhs; rw [split_at h]
  rw [List.append_assoc]
  exact List.Perm.append_left _ (List.perm_append_comm.trans (by simp))
theorem less_nodup {α : Type} {l : List α} {i : Nat} {x : α} (h : l[i]? = some x) (hn : l.Nodup) : (l.take i ++ l.drop (i + 1)).Nodup ∧ x ∉ l.take i ++ l.drop (i + 1) := by
  have h1 : ((l.take i ++ l.drop (i + 1)) ++ [x]).Nodup := (perm_at h).nodup_iff.2 hn
  rw [List.nodup_append] at h1
  exact ⟨h1.1, fun hx => h1.2.2 x hx x (by simp) rfl⟩
theorem map_shape {v : Val} (hk : v.k = 8) (ht : v.t.toList = []) (hl : v.ks.length = v.l.length) (hn : v.ks.Nodup) : v.shape = true := by
  unfold Val.shape
  rw [hk]
  simp [ht, hl, hn]
theorem may_map {v : Val} (hs : v.shape = true) (h : ∀ y ∈ v.l, y.within 255 = true) : v.may = true := by
  rw [← Val.may_eq, Val.within_s, hs, Bool.true_and, List.all_eq_true]; exact h
theorem zip_take {α β : Type} (n : Nat) (l : List α) (m : List β) : (l.zip m).take n = (l.take n).zip (m.take n) := by
  induction l generalizing n m with
  | nil => simp
  | cons x l ih => cases m <;> cases n <;> simp [ih]
theorem zip_drop {α β : Type} (n : Nat) (l : List α) (m : List β) : (l.zip m).drop n = (l.drop n).zip (m.drop n) := by
  induction l generalizing n m with
  | nil => simp
  | cons x l ih => cases m <;> cases n <;> simp [ih]
section
variable {v y : Val} {i : Nat} {s : ByteArray}
theorem less_len (hl : v.ks.length = v.l.length) : (v.less i).ks.length = (v.less i).l.length := by
  simp [Val.less, hl]
theorem less_may (h : v.may = true) (hs : v.ks[i]? = some s) : (v.less i).may = true ∧ s ∉ (v.less i).ks := by
  have h0 : 0 < v.ks.length := by have := (List.getElem?_eq_some_iff.1 hs).1; omega
  obtain ⟨hk, ht, hl, hn⟩ := keys_map h h0
  obtain ⟨n1, n2⟩ := less_nodup hs hn
  refine ⟨may_map (map_shape rfl ByteArray.toList_empty (less_len hl) n1) fun z hz => ?_, n2⟩
  refine (may_kid h ?_).1
  rcases List.mem_append.1 hz with hz | hz
  · exact List.mem_of_mem_take hz
  · exact List.mem_of_mem_drop hz
theorem again_same (h : v.may = true) (hs : v.ks[i]? = some s) (hy : v.l[i]? = some y) : (v.again i s y).may = true ∧ sameV (v.again i s y) v = true := by
  have h0 : 0 < v.ks.length := by have := (List.getElem?_eq_some_iff.1 hs).1; omega
  obtain ⟨hk, ht, hl, hn⟩ := keys_map h h0
  have p1 := perm_at hs
  have p2 := perm_at hy
  have hm : (v.again i s y).may = true := by
    refine may_map (map_shape rfl ByteArray.toList_empty ?_ (p1.nodup_iff.2 hn)) fun z hz => (may_kid h (p2.subset hz)).1
    simp [Val.again, hl]
  have hz : ((v.again i s y).ks.zip (v.again i s y).l).Perm (v.ks.zip v.l) := by
    have h3 : (v.ks.zip v.l)[i]? = some (s, y) := (List.getElem?_zip_eq_some (z := (s, y))).2 ⟨hs, hy⟩
    have := perm_at h3
    refine (List.Perm.of_eq ?_).trans this
    unfold Val.again
    simp only
    have hlen : (v.ks.take i ++ v.ks.drop (i + 1)).length = (v.l.take i ++ v.l.drop (i + 1)).length := by simp [hl]
    rw [List.zip_append hlen, List.zip_append (by simp [hl])]
    rw [zip_take, zip_drop]
    rfl
  have he : (v.again i s y).ents = v.ents := by
    refine sorted_eq ((ents_perm _).trans (hz.trans (ents_perm v).symm)) (ents_key (p1.nodup_iff.2 hn)) (ents_sorted _) (ents_sorted _)
  have hc : canon 256 (v.again i s y) = canon 256 v := by
    rw [canon_s, canon_s, if_pos (show (v.again i s y).k = 8 from rfl), if_pos hk, he]
    have : v.t = ⟨#[]⟩ := bl_eq (by rw [ht]; exact ByteArray.toList_empty.symm)
    rw [hk, this]; rfl
  refine ⟨hm, ?_⟩
  unfold sameV
  rw [hm, h]
  have := (cmpV_zero 256 _ _ (by rw [Val.may_eq]; exact hm) (by rw [Val.may_eq]; exact h)).2 hc
  rw [this]; rfl
end
/-- How many lists and maps are allowed makes no difference. -/
theorem cmpV_more : ∀ (n : Nat) (a b : Val), a.within n = true → b.within n = true → cmpV (n + 1) a b = cmpV n a b
  | 0, a, b, ha, hb => by
    rw [Val.within_0, Bool.and_eq_true] at ha
    have e : cmpV 0 a b = orInt [cmpInt a.k b.k, cmpStr a.t b.t] := rfl
    have h7 : a.k < 7 := by simpa using ha.2
    rw [e, cmpV_two, cmpT, if_pos h7, orInt]
    split
    · rename_i h; rw [h]; rfl
    · rfl
  | n + 1, a, b, ha, hb => by
    have ka := (within_k ha).2
    have kb := (within_k hb).2
    have ext : ∀ {α : Type} {f g : α → α → Int} (l m : List α), (∀ x ∈ l, ∀ y ∈ m, f x y = g x y) → cmpL f l m = cmpL g l m := by
      intro α f g l
      induction l with
      | nil => intro m _; cases m <;> rfl
      | cons x l ih =>
        intro m h
        cases m with
        | nil => rfl
        | cons y m =>
          simp only [cmpL]
          rw [h x (by simp) y (by simp), ih m fun x hx y hy => h x (by simp [hx]) y (by simp [hy])]
    rw [cmpV_two, cmpV_two, cmpT, cmpT]
    split
    · rfl
    split
    · rw [ext _ _ fun x hx y hy => cmpV_more n x y (ka x hx) (kb y hy)]
    · rw [ext _ _ fun x hx y hy => by rw [cmpV_more n x.2 y.2 (ka _ (ents_mem hx).2) (kb _ (ents_mem hy).2)]]
/-- A list of two values. -/
def two (a b : Val) : Val := ⟨7, ⟨#[]⟩, [a, b], []⟩
theorem deepR_deep : ∀ (n : Nat) (v : Val), v.within n = true → v.deepR = v.deep
  | 0, v, h => by
    rw [Val.within_0, Bool.and_eq_true] at h
    have h7 : v.k < 7 := by simpa using h.2
    rw [Val.deepR_eq, Val.deep_eq, if_pos h7, if_neg (by omega)]
  | n + 1, v, h => by
    have hs := (within_k h).1
    have e : v.l.map Val.deepR = v.l.map Val.deep := List.map_congr_left fun y hy => deepR_deep n y ((within_k h).2 y hy)
    rw [Val.deepR_eq, Val.deep_eq, e]
    rcases shape_range hs with h7 | h7 | h7
    · rw [if_pos h7, if_neg (by omega)]
    · rw [if_pos (.inl h7), if_neg (by omega)]
    · rw [if_pos (.inr h7), if_neg (by omega)]
theorem within_deep {n : Nat} {v : Val} (h : v.may = true) (hd : v.deep ≤ n) : v.within n = true := by
  rw [← Val.may_eq] at h
  have e := deepR_deep 256 v h
  rw [plain_within, Bool.and_eq_true] at h ⊢
  exact ⟨by rw [e]; simpa using hd, h.2⟩
theorem two_may {a b : Val} (ha : a.may = true) (hb : b.may = true) (da : ¬ 250 < a.deep) (db : ¬ 250 < b.deep) : (two a b).may = true := by
  refine may_map (v := two a b) ?_ fun y hy => ?_
  · unfold Val.shape two; simp
  · simp [two] at hy
    rcases hy with rfl | rfl
    · exact within_deep ha (by omega)
    · exact within_deep hb (by omega)
theorem two_cmp {a b : Val} (ha : a.may = true) (hb : b.may = true) (da : ¬ 250 < a.deep) (db : ¬ 250 < b.deep) : cmpR (two a b) (two b a) = cmpR a b := by
  unfold cmpR
  rw [if_pos ⟨two_may ha hb da db, two_may hb ha db da⟩, if_pos ⟨ha, hb⟩, cmpV_more 255 a b (within_deep ha (by omega)) (within_deep hb (by omega)), cmpV_two]
  have e : orInt [cmpInt (two a b).k (two b a).k, cmpStr (two a b).t (two b a).t] = 0 := (head_zero _ _).2 ⟨rfl, rfl⟩
  rw [e, cmpT]
  have an := (cmpV_ord 255).anti a b trivial trivial
  simp only [two, orInt, cmpL]
  by_cases h0 : cmpV 255 a b = 0
  · rw [if_pos h0, if_pos (by omega : cmpV 255 b a = 0)]; simp [h0]
  · rw [if_neg h0]; simp [h0]
theorem two_size (a b : Val) : (two a b).size = a.size + b.size + 1 := by
  rw [Val.size_eq]; simp [two]; omega
/-- Where a text stands first in a list. -/
def idxB : List ByteArray → ByteArray → Option Nat
  | [], _ => none
  | z :: zs, x => if z = x then some 0 else (idxB zs x).map (· + 1)
theorem idxB_some {x : ByteArray} : ∀ {zs : List ByteArray} {i : Nat}, idxB zs x = some i → zs[i]? = some x
  | [], i, h => by simp [idxB] at h
  | z :: zs, i, h => by
    simp only [idxB] at h
    split at h
    · rename_i e; cases h; simp [e]
    · obtain ⟨k, hk, rfl⟩ := Option.map_eq_some_iff.1 h
      simpa using idxB_some hk
theorem idxB_none {x : ByteArray} : ∀ {zs : List ByteArray}, idxB zs x = none ↔ x ∉ zs
  | [] => by simp [idxB]
  | z :: zs => by
    simp only [idxB, List.mem_cons]
    split
    · rename_i e; simp [e]
    · rename_i e
      rw [Option.map_eq_none_iff, idxB_none]
      simp [Ne.symm e]
theorem idxB_at {x : ByteArray} : ∀ {zs : List ByteArray} {i : Nat}, zs[i]? = some x → zs.Nodup → idxB zs x = some i
  | [], i, h, _ => by simp at h
  | z :: zs, 0, h, _ => by simp at h; simp [idxB, h]
  | z :: zs, i + 1, h, hn => by
    rw [List.nodup_cons] at hn
    have h' : zs[i]? = some x := by simpa using h
    have hx : x ∈ zs := List.mem_of_getElem? h'
    have hne : ¬ z = x := fun e => hn.1 (e ▸ hx)
    simp only [idxB, if_neg hne, idxB_at h' hn.2, Option.map_some]
/-- What a key has. -/
def Val.get (v : Val) (s : ByteArray) : Option Val := if v.k = 8 ∧ v.may = true then (idxB v.ks s).bind (v.l[·]?) else none
theorem get_at {v y : Val} {i : Nat} {s : ByteArray} (h : v.may = true) (hs : v.ks[i]? = some s) (hy : v.l[i]? = some y) : v.get s = some y := by
  have h0 : 0 < v.ks.length := by have := (List.getElem?_eq_some_iff.1 hs).1; omega
  obtain ⟨hk, ht, hl, hn⟩ := keys_map h h0
  rw [Val.get, if_pos ⟨hk, h⟩, idxB_at hs hn]
  exact hy
theorem get_none {v : Val} {s : ByteArray} (hs : s ∉ v.ks) : v.get s = none := by
  rw [Val.get, idxB_none.2 hs]
  split <;> rfl
theorem get_mem {v y : Val} {s : ByteArray} (h : v.get s = some y) : y ∈ v.l ∧ v.may = true := by
  rw [Val.get] at h
  split at h
  · rename_i hk
    obtain ⟨i, -, hi⟩ := Option.bind_eq_some_iff.1 h
    exact ⟨List.mem_of_getElem? hi, hk.2⟩
  · cases h
theorem again_w {v y : Val} {i : Nat} {s : ByteArray} (hs : v.ks[i]? = some s) (hy : v.l[i]? = some y) : (v.again i s y).w ≤ v.w := by
  have p1 := perm_at hs
  have p2 := perm_at hy
  rw [Val.w_eq, Val.w_eq v]
  have h1 : (v.again i s y).ks.length = v.ks.length := p1.length_eq
  have h2 : ((v.again i s y).ks.map (·.size)).sum = (v.ks.map (·.size)).sum := sum_perm (p1.map _)
  have h3 : ((v.again i s y).l.map Val.w).sum = (v.l.map Val.w).sum := sum_perm (p2.map _)
  have h4 : (v.again i s y).t.size = 0 := rfl
  omega
theorem less_w {v y : Val} {i : Nat} {s : ByteArray} (hs : v.ks[i]? = some s) (hy : v.l[i]? = some y) : (v.less i).w ≤ v.w := by
  refine Nat.le_trans ?_ (again_w hs hy)
  rw [Val.w_eq, Val.w_eq (v.again i s y)]
  simp only [Val.less, Val.again, List.length_append, List.map_append, List.sum_append]
  omega
theorem two_w (a b : Val) : (two a b).w = 1 + a.w + b.w := by
  have h : (⟨#[]⟩ : ByteArray).size = 0 := rfl
  rw [Val.w_eq]; simp [two, h]; omega
instance memDec (s : ByteArray) (l : List ByteArray) : Decidable (s ∈ l) := decidable_of_iff ((idxB l s).isSome = true) (by
  cases h : idxB l s with
  | none => simp [idxB_none.1 h]
  | some i => simp [List.mem_of_getElem? (idxB_some h)])
end Go.Proofs.Ytmhkacafilpliaa
