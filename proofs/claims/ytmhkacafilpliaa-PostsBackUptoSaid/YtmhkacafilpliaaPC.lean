/-
  PostsBack, plain: what a node's part and the value made of it have in common; inarchlaw19.made at whatever node. Conditions: the value may be, the postorder lies in memory.
-/
import Derived.Test.YtmhkacafilpliaaPB
import Derived.Test.YtmhkacafilpliaaJT
namespace Go.Proofs.Ytmhkacafilpliaa
open Go.RowKit Go.Sort Go.Shelf

theorem kind_of {v : Val} (h : v.shape = true) : 0 ≤ v.k ∧ v.k ≤ 255 := by
  unfold Val.shape at h
  repeat' split at h
  all_goals first | omega | (simp at h)
theorem canon_w : ∀ (n : Nat) (v : Val), v.within n = true → (canon n v).w = v.w
  | 0, _, _ => rfl
  | n + 1, v, h => by
    obtain ⟨hs, hk⟩ := within_parts h
    by_cases h8 : v.k = 8
    · obtain ⟨hl, -⟩ := shape_eight hs h8
      rw [canon_s, if_pos h8, Val.w_eq, Val.w_eq v]
      have hp := ents_perm v
      have h1 : (v.ents.map (·.1)).Perm v.ks := ents_fst hl
      have h2 : (v.ents.map (·.2)).Perm v.l := by
        have h := hp.map (·.2)
        rwa [List.map_snd_zip (by omega)] at h
      have e1 : ((v.ents.map (·.1)).map (·.size)).sum = (v.ks.map (·.size)).sum := (h1.map _).sum_nat
      have e2 : ((v.ents.map fun e => canon n e.2).map Val.w).sum = (v.l.map Val.w).sum := by
        rw [List.map_map, ← (h2.map Val.w).sum_nat, List.map_map]
        congr 1
        exact List.map_congr_left fun e he => canon_w n e.2 (hk _ (ents_mem he).2)
      have e3 := h1.length_eq
      simp only [e1, e2, e3]
    · rw [canon_s, if_neg h8, Val.w_eq, Val.w_eq v]
      have e2 : ((v.l.map (canon n)).map Val.w).sum = (v.l.map Val.w).sum := by
        rw [List.map_map]
        congr 1
        exact List.map_congr_left fun e he => canon_w n e (hk _ he)
      simp only [e2]
theorem may_of {n : Nat} {v : Val} (h : v.within n = true) (hn : n ≤ 256) : v.may = true := by
  rw [← Val.may_eq]
  have := within_add n v h (256 - n)
  rwa [show n + (256 - n) = 256 by omega] at this
theorem may_in9 {v : Val} (h : v.may = true) : v.within 256 = true := (Val.may_eq v).trans h
theorem seg_whole {V : Val} (h : V.may = true) : Seg V.labs V.lefts 256 ⟨false, ⟨#[]⟩, V⟩ (V.labs.length - 1) := by
  have := seg_top (e := ⟨false, ⟨#[]⟩, V⟩) (may_in9 h)
  rw [labs_len V h, Val.labs_eq, Val.lefts_eq]
  exact this
theorem seg_back {V : Val} (h : V.may = true) {i : Nat} (hi : i < V.labs.length) : ∃ m x, Seg V.labs V.lefts m x i ∧ m ≤ 256 ∧ x.v.w ≤ V.w := by
  have h1 := seg_whole h
  have h2 := h1.start
  rw [labs_len V h] at hi h1 h2
  have := size_pos V
  simp only at h2
  exact seg_all 256 ⟨false, ⟨#[]⟩, V⟩ (V.size - 1) i h1 (by simp only; omega) (by omega)
theorem canon_same {V : Val} (h : V.may = true) : (canon 256 V).may = true ∧ sameV V (canon 256 V) = true := by
  have hw := may_in9 h
  have hc := canon_in 256 V hw
  have hm : (canon 256 V).may = true := (Val.may_eq _).symm.trans hc
  refine ⟨hm, ?_⟩
  unfold sameV
  rw [h, hm, Bool.true_and, Bool.true_and, decide_eq_true_iff, cmpV_zero 256 _ _ hw hc, canon_canon 256 V hw]
theorem turned_same {V : Val} (h : V.may = true) (b : Nat) : (V.turned b).may = true ∧ sameV V (V.turned b) = true := by
  have hw := may_in9 h
  have hc := turned_within b 256 V hw
  have hm : (V.turned b).may = true := (Val.may_eq _).symm.trans hc
  refine ⟨hm, ?_⟩
  unfold sameV
  rw [h, hm, Bool.true_and, Bool.true_and, decide_eq_true_iff, cmpV_zero 256 _ _ hw hc, canon_turned b 256 V hw]
/-- What a node's part and the value made of it have in common. -/
theorem seg_facts {V : Val} {m i : Nat} {x : Plc} (h : Seg V.labs V.lefts m x i) (hm : m ≤ 256) :
    (canon m x.v).may = true ∧ (canon m x.v).w = x.v.w ∧ partAt V.labs (intsL V.lefts) (i : Int) = some (i + 1 - x.v.size) ∧ partOk (intsL V.lefts) (i + 1 - x.v.size) x.v.size = true ∧
      partN (intsL V.lefts) (i + 1 - x.v.size) x.v.size = (canon m x.v).lefts ∧ (canon m x.v).labs.length = x.v.size ∧ (partL V.labs (i + 1 - x.v.size) x.v.size).length = x.v.size ∧ (partL V.labs (i + 1 - x.v.size) x.v.size)[x.v.size - 1]? = V.labs[i]? := by
  have hw := h.1
  have hst := h.start
  have hlf := h.left
  have hp := size_pos x.v
  have hcw := canon_in m x.v hw
  have hcm := may_of hcw hm
  have hsz := post_size m x hw
  have hcs : (canon m x.v).size = x.v.size := by
    have h1 := post_size m ⟨x.kd, x.key, canon m x.v⟩ hcw
    rw [post_canon m x.kd x.key x.v hw] at h1
    exact h1.symm.trans hsz
  have hcl : (canon m x.v).labs.length = x.v.size := by rw [labs_len _ hcm, hcs]
  have hlefts : (canon m x.v).lefts = leftF (m + 1) 0 x := by
    rw [Val.lefts_eq]
    have h1 := left_up m 0 ⟨false, ⟨#[]⟩, canon m x.v⟩ hcw (256 - m)
    rw [show m + (256 - m) + 1 = 256 + 1 by omega] at h1
    rw [h1, left_canon m 0 false ⟨#[]⟩ x.v hw]
    exact left_any (m + 1) 0 x false ⟨#[]⟩
  have hil : i < V.labs.length := (List.getElem?_eq_some_iff.1 h.lab).1
  have hll := left_len (m + 1) (i + 1 - x.v.size) x
  obtain ⟨-, A, B, A', B', h1, h2, h3, h4⟩ := h
  have hA : A.length = i + 1 - x.v.size := by omega
  have hdL : (V.labs.drop (i + 1 - x.v.size)).take x.v.size = postF (m + 1) x := by
    rw [h1, List.append_assoc, List.drop_left' hA, List.take_left' hsz]
  have hdF : (V.lefts.drop (i + 1 - x.v.size)).take x.v.size = leftF (m + 1) (i + 1 - x.v.size) x := by
    rw [h3, List.append_assoc, List.drop_left' (by omega), hA, List.take_left' (by omega)]
  have hgF : ∀ j, j < x.v.size → V.lefts[i + 1 - x.v.size + j]? = (leftF (m + 1) (i + 1 - x.v.size) x)[j]? := fun j hj => by
    rw [← hdF, List.getElem?_take_of_lt hj, List.getElem?_drop]
  refine ⟨hcm, canon_w m x.v hw, ?_, ?_, ?_, hcl, ?_, ?_⟩
  · have e1 : ¬ ((i : Int) < 0 ∨ (V.labs.length : Int) ≤ (i : Int) ∨ (intsL V.lefts).length ≠ V.labs.length) := by
      have : (intsL V.lefts).length = V.labs.length := by rw [List.length_map, lefts_len]
      omega
    rw [partAt, if_neg e1]
    have e2 : (intsL V.lefts)[((i : Int)).toNat]? = some ((i + 1 - x.v.size : Nat) : Int) := by
      rw [Int.toNat_natCast, List.getElem?_map, hlf]; rfl
    rw [e2]
    simp only
    rw [if_neg (by omega)]
    simp
  · rw [partOk, List.all_eq_true]
    intro j hj
    rw [List.mem_range] at hj
    have hg := hgF j hj
    have hlt : j < (leftF (m + 1) (i + 1 - x.v.size) x).length := by omega
    rw [List.getElem?_eq_getElem hlt] at hg
    have hin := left_in (m + 1) (i + 1 - x.v.size) x j _ (List.getElem?_eq_getElem hlt)
    generalize (leftF (m + 1) (i + 1 - x.v.size) x)[j] = l at *
    rw [List.getElem?_map, hg]
    simp only [Option.map_some, badZ]
    simp
    omega
  · rw [partN, intsL, ← List.map_drop, ← List.map_take, hdF, hlefts, List.map_map]
    have hs := left_shift (m + 1) 0 (i + 1 - x.v.size) x
    rw [Nat.zero_add] at hs
    rw [hs, List.map_map]
    conv => rhs; rw [← List.map_id (leftF (m + 1) 0 x)]
    refine List.map_congr_left fun l _ => ?_
    simp
    omega
  · rw [partL, hdL, hsz]
  · rw [partL, hdL, h1, List.append_assoc, List.getElem?_append_right (by omega), List.getElem?_append_left (by omega)]
    congr 1
    omega

theorem ints_at {F : List Nat} {i l : Nat} (h : F[i]? = some l) : (intsL F)[i]? = some (l : Int) := by rw [List.getElem?_map, h]; rfl
theorem made_c : ∀ (m : Nat) (w : World) (p : PA) (F : List Nat) (x : Plc) (i : Nat), p.Rd w → p.F = intsL F → Seg p.L F m x i → Calls Try.prog 34 #[.agg p.box, .int .i64 (i : Int)] w (MadePost (canon m x.v) w) := by
  intro m
  induction m with
  | zero =>
    intro w p F x i hp hF h
    have hs := h.shape
    have h0 := subs_leaf h.1
    have hw := h.1
    rw [Val.within_0, Bool.and_eq_true] at hw
    have hlf := shape_leaf2 hs (by simpa using hw.2)
    have hst := h.start
    have hsz := size_subs hs
    rw [h0] at hsz
    have hz : x.v.size = 1 := hsz
    have := made_step w p hp i (i + 1 - x.v.size) ⟨x.kd, x.key, x.v.k, x.v.t⟩ [] [] h.lab (by rw [hF]; exact ints_at h.left) (kind_of hs) (by show i + 1 - x.v.size + 0 = i; omega) (fun j y hj => by simp at hj) (fun j y hj => by simp at hj) rfl (fun j v hj => by simp at hj)
    have e : canon 0 x.v = ⟨x.v.k, x.v.t, [], if x.v.k = 8 then ([] : List Plc).map (·.key) else []⟩ := by
      obtain ⟨kd, key, k, t, l, ks⟩ := x
      simp only at hlf
      show (⟨k, t, l, ks⟩ : Val) = _
      rw [hlf.1, hlf.2]
      simp
    rw [e]
    exact this
  | succ m ih =>
    intro w p F x i hp hF h
    have hs := h.shape
    have hst := h.start
    have hsz := size_subs hs
    have hsf := stt_from (i + 1 - x.v.size) x.v.subs x.v.subs.length
    have := made_step w p hp i (i + 1 - x.v.size) ⟨x.kd, x.key, x.v.k, x.v.t⟩ x.v.subs (x.v.subs.map fun e => canon m e.v) h.lab (by rw [hF]; exact ints_at h.left) (kind_of hs) (by omega)
      (fun j y hj => by
        obtain ⟨n, hn, hk⟩ := h.kid hj
        refine ⟨_, hk.lab, ?_, rfl⟩
        have hm := List.mem_of_getElem? hj
        show y.kd = (x.v.k == 8)
        unfold Val.subs at hm
        by_cases h8 : x.v.k = 8
        · rw [if_pos h8] at hm
          obtain ⟨e, -, rfl⟩ := List.mem_map.1 hm
          simp [h8]
        · rw [if_neg h8] at hm
          obtain ⟨e, -, rfl⟩ := List.mem_map.1 hm
          simp [h8])
      (fun j y hj => by
        obtain ⟨n, hn, hk⟩ := h.kid hj
        rw [hF]
        have h1 := ints_at hk.left
        have h2 := stt_succ (fr := i + 1 - x.v.size) hj
        have h3 := size_pos y.v
        rwa [show stt (i + 1 - x.v.size) x.v.subs (j + 1) - 1 + 1 - y.v.size = stt (i + 1 - x.v.size) x.v.subs j by omega] at h1)
      (by simp)
      (fun j v hj W hb => by
        rw [List.getElem?_map] at hj
        cases hy : x.v.subs[j]? with
        | none => rw [hy] at hj; simp at hj
        | some y =>
          rw [hy] at hj
          simp only [Option.map_some, Option.some.injEq] at hj
          subst hj
          obtain ⟨n, hn, hk⟩ := h.kid hy
          have : n = m := by omega
          subst this
          exact ih W p F y _ (hp.up hb) hF hk)
    have e : canon (m + 1) x.v = ⟨x.v.k, x.v.t, x.v.subs.map fun e => canon m e.v, if x.v.k = 8 then x.v.subs.map (·.key) else []⟩ := by
      rw [canon_subs]
      by_cases h8 : x.v.k = 8
      · rw [if_pos h8, if_pos h8]
      · rw [if_neg h8, if_neg h8, shape_keys hs h8]
    rw [e]
    exact this
end Go.Proofs.Ytmhkacafilpliaa
