/-
  inarchlaw22.LcsAround, plain: what stands ahead of both lists, or behind both; keys turned; what one list has alone. And Great with what it tells. Conditions: the values may be; the list lies in memory.
-/
import Derived.Test.YtjihepdjcbpgoaaDoorMJ
namespace Go.Proofs.YtjihepdjcbpgoaaDoor
open Go.RowKit Go.Sort

theorem may_of {l : List Val} (h : allMay l = true) {v : Val} (hv : v ∈ l) : v.may = true := allMay_iff.1 h v hv
theorem allMay_app {a b : List Val} (ha : allMay a = true) (hb : allMay b = true) : allMay (a ++ b) = true := by
  rw [allMay, List.all_append]
  exact Bool.and_eq_true_iff.2 ⟨ha, hb⟩
/-- The names of a list of which each may be. -/
def kl (l : List Val) : List (Nat × ByteArray) := l.map fun v => (0, v.key)
theorem kl_labs (side : Nat) {l : List Val} (h : allMay l = true) : labs side l = kl l := labs_fine side (allMay_iff.1 h)
theorem kl_app (a b : List Val) : kl (a ++ b) = kl a ++ kl b := List.map_append
theorem kl_len (a : List Val) : (kl a).length = a.length := List.length_map _
theorem around_front {a b l : List Val} (ha : allMay a = true) (hb : allMay b = true) (hl : allMay l = true) {P Q : List (Nat × Nat)} (h : Early (labs 0 a) (labs 1 b) 0 0 P) (h2 : Early (labs 0 (l ++ a)) (labs 1 (l ++ b)) 0 0 Q) :
    Q = diag l.length ++ shP l.length l.length P := by
  rw [kl_labs 0 ha, kl_labs 1 hb] at h
  rw [kl_labs 0 (allMay_app hl ha), kl_labs 1 (allMay_app hl hb), kl_app, kl_app] at h2
  have h3 := early_front (kl l) h
  rw [kl_len] at h3
  exact early_one h2 h3
theorem around_back {a b l : List Val} (ha : allMay a = true) (hb : allMay b = true) (hl : allMay l = true) {P : List (Nat × Nat)} (h : Early (labs 0 a) (labs 1 b) 0 0 P) : lcsL (labs 0 (a ++ l)) (labs 1 (b ++ l)) = P.length + l.length := by
  have hp := h.len
  rw [kl_labs 0 ha, kl_labs 1 hb] at hp
  rw [kl_labs 0 (allMay_app ha hl), kl_labs 1 (allMay_app hb hl), kl_app, kl_app, lcs_back, kl_len, hp]
  rfl
theorem key_sz {a b : Val} (ha : a.may = true) (hb : b.may = true) (h : a.key = b.key) : a.size = b.size := by
  have wa : a.within 256 = true := by rw [Val.may_eq]; exact ha
  have wb : b.within 256 = true := by rw [Val.may_eq]; exact hb
  have e := (cmpV_zero 256 a b wa wb).1 ((key_same ha hb).1 h)
  rw [← canon_size 256 a wa, ← canon_size 256 b wb, e]
theorem turned_k0 (by_ : Nat) {v : Val} (h : v.may = true) : (v.turned by_).may = true ∧ (v.turned by_).key = v.key := by
  have wv : v.within 256 = true := by rw [Val.may_eq]; exact h
  have hm : (v.turned by_).may = true := by rw [← Val.may_eq]; exact turned_within by_ 256 v wv
  refine ⟨hm, (key_same hm h).2 ?_⟩
  exact (cmpV_zero 256 _ v (turned_within by_ 256 v wv) wv).2 (canon_turned by_ 256 v wv)
theorem same_mt0 {a b : List Val} {i k : Nat} (h : Mt (labs 0 a) (labs 1 b) i k) : ∃ v u, a[i]? = some v ∧ b[k]? = some u ∧ sameV v u = true := by
  have hl := h.lt
  rw [labs_len, labs_len] at hl
  obtain ⟨x, hx, hy⟩ := h
  have h1 := List.getElem?_eq_getElem hl.1
  have h2 := List.getElem?_eq_getElem hl.2
  exact ⟨_, _, h1, h2, (labs_same h1 h2).1 (hx.trans hy.symm)⟩
theorem lv_at0 {x : LA} {i : Nat} {v : Val} (h : x.v[i]? = some v) : ∃ u : AV, x.l[i]? = some u ∧ u.v = v := by
  rw [LA.v, List.getElem?_map] at h
  cases e : x.l[i]? with
  | none => rw [e] at h; cases h
  | some u => rw [e] at h; exact ⟨u, rfl, Option.some.inj h⟩
/-- What a match tells. -/
theorem match_at0 {x y : LA} {P : List (Nat × Nat)} (he : Early (labs 0 x.v) (labs 1 y.v) 0 0 P) {i : Nat} {p : Nat × Nat} (h : P[i]? = some p) : ∃ u v : AV, x.l[p.1]? = some u ∧ y.l[p.2]? = some v ∧ sameV u.v v.v = true := by
  obtain ⟨-, -, hm⟩ := he.at_.1 p (List.mem_of_getElem? h)
  obtain ⟨v, u, h1, h2, h3⟩ := same_mt0 hm
  obtain ⟨u', g1, rfl⟩ := lv_at0 h1
  obtain ⟨v', g2, rfl⟩ := lv_at0 h2
  exact ⟨u', v', g1, g2, h3⟩
theorem diag_get {n m : Nat} (h : m < n) : (diag n)[m]? = some (m, m) := by simp [diag, h]
theorem turned_w0 (by_ : Nat) : ∀ v : Val, (v.turned by_).w = v.w := Val.ind fun v ih => by
  have h1 := ((turned_l by_ v).map Val.w).sum_nat
  have h2 := ((turned_ks by_ v).map (·.size)).sum_nat
  have h3 := (turned_ks by_ v).length_eq
  have h4 : (v.l.map (Val.turned by_)).map Val.w = v.l.map Val.w := by
    rw [List.map_map]; exact List.map_congr_left fun y hy => ih y hy
  rw [Val.w_eq, Val.w_eq v, turned_t, h1, h2, h3, h4]
/-- Keys turned, each place by its number. -/
def turnAll (a : List Val) : List Val := a.mapIdx fun i v => v.turned (i % 256)
theorem turnAll_kl (a : List Val) (h : allMay a = true) : allMay (turnAll a) = true ∧ kl (turnAll a) = kl a := by
  refine ⟨allMay_iff.2 fun v hv => ?_, ?_⟩
  · obtain ⟨i, hi, rfl⟩ := List.mem_mapIdx.1 hv
    exact (turned_k0 _ (may_of h (List.getElem_mem hi))).1
  · apply List.ext_getElem?
    intro i
    rw [kl, kl, List.getElem?_map, List.getElem?_map, turnAll, List.getElem?_mapIdx]
    cases e : a[i]? with
    | none => rfl
    | some v =>
      have := (turned_k0 (i % 256) (may_of h (List.mem_of_getElem? e))).2
      simp only [Option.map_some, this]
theorem around_turn {a b : List Val} (ha : allMay a = true) {P Q : List (Nat × Nat)} (h : Early (labs 0 a) (labs 1 b) 0 0 P) (h2 : Early (labs 0 (turnAll a)) (labs 1 b) 0 0 Q) : Q = P := by
  obtain ⟨h3, h4⟩ := turnAll_kl a ha
  rw [kl_labs 0 h3, h4, ← kl_labs 0 ha] at h2
  exact early_one h2 h
theorem kl_weave (o : Val) (a : List Val) : kl (weave o a) = weave (0, o.key) (kl a) := by
  rw [weave, weave, kl, kl, List.map_flatMap, List.flatMap_map]
  rfl
theorem around_own {a b : List Val} {o : Val} (ha : allMay a = true) (hb : allMay b = true) (ho : o.may = true) (hs : ∀ v ∈ b, v.size < o.size) {P Q : List (Nat × Nat)} (h : Early (labs 0 a) (labs 1 b) 0 0 P) (h2 : Early (labs 0 (weave o a)) (labs 1 b) 0 0 Q) :
    Q = P.map fun p => (2 * p.1 + 1, p.2) := by
  have hw : allMay (weave o a) = true := allMay_iff.2 fun v hv => by
    obtain ⟨x, hx, hv⟩ := List.mem_flatMap.1 hv
    simp only [List.mem_cons, List.not_mem_nil, or_false] at hv
    rcases hv with rfl | rfl
    · exact ho
    · exact may_of ha hx
  rw [kl_labs 0 ha, kl_labs 1 hb] at h
  rw [kl_labs 0 hw, kl_labs 1 hb, kl_weave] at h2
  refine early_one h2 (early_weave (fun hm => ?_) h)
  obtain ⟨v, hv, e⟩ := List.mem_map.1 hm
  have e2 : v.key = o.key := congrArg Prod.snd e
  have := key_sz (may_of hb hv) ho e2
  have := hs v hv
  omega

def SmallQ (q : LA) : Prop := q.l.length ≤ 60 ∧ (q.l.map AV.w).sum ≤ 2000
def RetG (q : LA) (w : World) (e : Ending) (w' : World) : Prop := ∃ r : Bool, e = .returned (.bool r) ∧ (r = false → SmallQ q) ∧ Below w.heap.size w w'
theorem sum_take_w {l : List AV} {k : Nat} {y : AV} (h : l[k]? = some y) : ((l.take (k + 1)).map AV.w).sum = ((l.take k).map AV.w).sum + y.w := by
  rw [List.take_add_one, h, List.map_append, List.sum_append]
  simp
set_option maxRecDepth 100000 in
set_option maxHeartbeats 3200000 in
theorem great22_s (w : World) (q : LA) (hq : q.Rd w) : Calls Tryd.prog 8 #[.slice q.a q.l.length q.c] w (RetG q w) := by
  have hql := hq.len
  have HQ := Lib.hid hq
  clear hq
  go_enter Tryd.func8, Tryd.ntmps8
  go_wp2_with fail
  go_loopw [3, 4] (fun s3 s4 wr => ∃ n k : Nat, k ≤ q.l.length ∧ s3 = .int .i64 n ∧ s4 = .int .i64 k ∧ n ≤ 2097152 ∧ (n ≤ 2999 → n = q.l.length + ((q.l.take k).map AV.w).sum) ∧ Below w.heap.size w wr) (fun _ s4 _ => q.l.length - (intOf s4).toNat)
  case atStart => exact ⟨q.l.length, 0, Nat.zero_le _, rfl, rfl, by omega, fun _ => by simp, Below.refl _ _⟩
  case round =>
    obtain ⟨n, k, hk, rfl, rfl, hn, hnw, hb⟩ := hrel
    have HNW := Lib.hid hnw
    clear hnw
    by_cases hkl : k < q.l.length
    · have hkl' : (k : Int) < (q.l.length : Int) := by omega
      by_cases hn3 : n < 3000
      · have hn3' : (n : Int) < 3000 := by omega
        have hk2 : q.l[k]? = some q.l[k] := List.getElem?_eq_getElem hkl
        have hmem : q.l[k] ∈ q.l := List.getElem_mem hkl
        generalize q.l[k] = y at hk2 hmem
        obtain ⟨b2, off2, hla2, -, -, hc2, g0, g1, g2, g3⟩ := vals_at HQ.out.sl hk2
        rw [← hb.cell (p := ⟨_, _, none⟩) hc2] at g0 g1 g2 g3
        have hbb2 : b2 < wr.heap.size := Nat.lt_of_lt_of_le hc2 hb.size
        obtain ⟨hyr, hyw⟩ := HQ.out.kids y hmem
        have HWT := Lib.hid (weight_c y wr (hyr.up hb) hyw)
        have hyw2 : y.v.w ≤ 1048576 := hyw
        have HK2 := Lib.hid hk2
        have HBB := Lib.hid hb
        have HLA := Lib.hid hla2
        have hk0 : (0 : Int) ≤ (k : Int) := by omega
        clear hb hk2 hmem hla2 hyr hyw
        have hwk : IntKind.i64.wrap ((k : Int) + 1) = ((k + 1 : Nat) : Int) := by rw [IntWalk.i64_in _ (by omega)]; omega
        rw [HLA.out]
        go_wp2_with (go_at_call 26; refine HWT.out.mono ?_; rintro e w2 ⟨r, hr, rfl, hb3⟩
                     have hr2 : r ≤ y.v.w := hr.1
                     have HR := Lib.hid hr
                     clear hr
                     have hw2 : IntKind.i64.wrap ((n : Int) + (r : Int)) = ((n + r : Nat) : Int) := by rw [IntWalk.i64_in _ (by omega)]; omega)
        refine ⟨⟨n + r, k + 1, by omega, by go_num, by go_num, by omega, fun h => ?_, below_via HBB.out hb3⟩, by simp [intOf]; omega⟩
        have h1 := HNW.out (by omega)
        have h2 : r = y.v.w := by rcases HR.out.2 with h | h <;> omega
        rw [sum_take_w HK2.out, h2]
        have h3 : y.w = y.v.w := rfl
        omega
      · have hn3' : ¬ (n : Int) < 3000 := by omega
        have hg : decide ((2000 : Int) < (n : Int)) = true := decide_eq_true (by omega)
        have hg2 : (2000 : Int) < (n : Int) := by omega
        go_wp2_with fail
        all_goals
          go_ret
          exact ⟨_, rfl, (fun h => by cases h), hb⟩
    · have hkl' : ¬ (k : Int) < (q.l.length : Int) := by omega
      have hkq : k = q.l.length := by omega
      have HKQ := Lib.hid hkq
      clear hkq
      by_cases hn2 : n ≤ 2000
      · have h1 := HNW.out (by omega)
        rw [HKQ.out, List.take_length] at h1
        have HS := Lib.hid h1
        clear h1
        by_cases hl6 : q.l.length ≤ 60
        · have HSM := Lib.hid (show SmallQ q from ⟨hl6, by have := HS.out; omega⟩)
          have hl6' : ¬ (60 : Int) < (q.l.length : Int) := by omega
          have hn2' : ¬ (2000 : Int) < (n : Int) := by omega
          go_wp2_with fail
          all_goals
            go_ret
            exact ⟨_, rfl, fun _ => HSM.out, hb⟩
        · have hl6' : (60 : Int) < (q.l.length : Int) := by omega
          have hn2' : ¬ (2000 : Int) < (n : Int) := by omega
          go_wp2_with fail
          all_goals
            go_ret
            exact ⟨_, rfl, (fun h => by cases h), hb⟩
      · have hn2' : (2000 : Int) < (n : Int) := by omega
        go_wp2_with fail
        all_goals
          go_ret
          exact ⟨_, rfl, (fun h => by cases h), hb⟩
end Go.Proofs.YtjihepdjcbpgoaaDoor
