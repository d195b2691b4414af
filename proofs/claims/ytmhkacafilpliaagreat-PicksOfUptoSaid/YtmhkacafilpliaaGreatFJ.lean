/-
  Chapter 29: when lists are the same, and alike, element by element; picks.Of's questions. Conditions: the lists lie in memory, weights and lengths are bounded. (Printed by gen_fh.py.)
  Chapter 29: picks.Of. Conditions: the lists lie in memory, weights and lengths are bounded. (Printed by gen_fi.py.)
  Chapter 29: picks.Rest. Conditions: the lists lie in memory, weights and lengths are bounded.
-/
import Derived.Test.YtmhkacafilpliaaGreatEP
import Derived.Test.YtmhkacafilpliaaGreatLA
import Derived.Test.YtmhkacafilpliaaGreatJE
namespace Go.Proofs.YtmhkacafilpliaaGreat
open Go.RowKit Go.Sort Go.Shelf Go.BigFrame

/-- Are all elements of both lists, place by place, such? -/
def eqlW (f : Val → Val → Bool) : List Val → List Val → Bool
  | [], [] => true
  | u :: a, v :: b => f u v && eqlW f a b
  | _, _ => false
theorem eqlW_len {f : Val → Val → Bool} : ∀ {a b : List Val}, a.length ≠ b.length → eqlW f a b = false
  | [], [], h => absurd rfl h
  | [], _ :: _, _ => rfl
  | _ :: _, [], _ => rfl
  | u :: a, v :: b, h => by rw [eqlW, eqlW_len (a := a) (b := b) (by simpa using h), Bool.and_false]
theorem eqlW_no {f : Val → Val → Bool} : ∀ {a b : List Val} {i : Nat} {u v : Val}, a[i]? = some u → b[i]? = some v → f u v = false → eqlW f a b = false
  | [], _, i, _, _, h, _, _ => by simp at h
  | _ :: _, [], i, _, _, _, h, _ => by simp at h
  | u :: a, v :: b, 0, _, _, h1, h2, h => by cases h1; cases h2; rw [eqlW, h, Bool.false_and]
  | u :: a, v :: b, i + 1, _, _, h1, h2, h => by rw [eqlW, eqlW_no (a := a) (b := b) (i := i) h1 h2 h, Bool.and_false]
theorem eqlW_yes {f : Val → Val → Bool} : ∀ {a b : List Val}, a.length = b.length → (∀ (i : Nat) (u v : Val), a[i]? = some u → b[i]? = some v → f u v = true) → eqlW f a b = true
  | [], [], _, _ => rfl
  | [], _ :: _, h, _ => by simp at h
  | _ :: _, [], h, _ => by simp at h
  | u :: a, v :: b, hl, h => by rw [eqlW, h 0 u v rfl rfl, eqlW_yes (a := a) (b := b) (by simpa using hl) fun i u v h1 h2 => h (i + 1) u v h1 h2]; rfl
def areB (a b : Val) : Bool := nearI a b != -1
set_option maxRecDepth 100000 in
set_option maxHeartbeats 6400000 in
theorem eqf_same_c (w : World) (p q : LA) (hp : p.Rd w) (hq : q.Rd w) : Calls Tryz.prog 48 #[.slice p.a p.l.length p.c, .slice q.a q.l.length q.c, .func (.func 25) #[] #[]] w (Ret (.bool (eqlW sameV p.v q.v)) w) := by
  have HPR := Lib.hid (show ∀ W, Below w.heap.size w W → p.Rd W from fun W h => hp.up h)
  have HQR := Lib.hid (show ∀ W, Below w.heap.size w W → q.Rd W from fun W h => hq.up h)
  have HP := Lib.hid hp
  have HQ := Lib.hid hq
  have hpl := hp.len
  have hql := hq.len
  obtain ⟨r, hr⟩ : ∃ r, r = eqlW sameV p.v q.v := ⟨_, rfl⟩
  have HR := Lib.hid hr
  rw [← hr]
  clear hp hq hr
  by_cases hl : p.l.length = q.l.length
  · have hl' : ((p.l.length : Int) != (q.l.length : Int)) = false := by simp [hl]
    have HL := Lib.hid hl
    clear hl
    go_enter Tryz.func48, Tryz.ntmps48
    go_wp2_with fail
    clear hl'
    go_loopw [17] (fun s17 wr => ∃ k : Nat, k ≤ p.l.length ∧ s17 = .int .i64 (k : Int) ∧ Hid (Below w.heap.size w wr) ∧ Hid (∀ (j : Nat) (u v : Val), j < k → p.v[j]? = some u → q.v[j]? = some v → sameV u v = true)) (fun s17 _ => p.l.length - (intOf s17).toNat)
    case atStart => exact ⟨0, Nat.zero_le _, rfl, Lib.hid (Below.refl _ _), Lib.hid (fun j u v h => absurd h (Nat.not_lt_zero _))⟩
    case round =>
      obtain ⟨k, hk, rfl, HBR, HYES⟩ := hrel
      by_cases hlt : k < p.l.length
      · have hlq : k < q.l.length := by rw [← HL.out]; exact hlt
        have hks : p.l[k]? = some p.l[k] := List.getElem?_eq_getElem hlt
        have hkq : q.l[k]? = some q.l[k] := List.getElem?_eq_getElem hlq
        generalize p.l[k] = u at *
        generalize q.l[k] = v at *
        have hlt' : (k : Int) < (p.l.length : Int) := by omega
        have hlq' : (k : Int) < (q.l.length : Int) := by omega
        have hk0 : (0 : Int) ≤ (k : Int) := by omega
        have hp0 := HP.out.sl
        have hq0 := HQ.out.sl
        obtain ⟨b, off, hla, -, -, -, c0, c1, c2, c3⟩ := vals_at hp0 hks
        obtain ⟨b2, off2, hla2, -, -, -, d0, d1, d2, d3⟩ := vals_at hq0 hkq
        have k1 := blkv HBR.out c0
        have k2 := blkv HBR.out c1
        have k3 := blkv HBR.out c2
        have k4 := blkv HBR.out c3
        have hba : ∀ o, Below wr.heap.size wr (wr.alloc o) := fun o => below_al (Below.refl _ _)
        have m1 := fun o => blkv (below_via HBR.out (hba o)) d0
        have m2 := fun o => blkv (below_via HBR.out (hba o)) d1
        have m3 := fun o => blkv (below_via HBR.out (hba o)) d2
        have m4 := fun o => blkv (below_via HBR.out (hba o)) d3
        obtain ⟨ru, wu⟩ := (HPR.out wr HBR.out).kids u (List.mem_of_getElem? hks)
        obtain ⟨rv, wv⟩ := (HQR.out wr HBR.out).kids v (List.mem_of_getElem? hkq)
        obtain ⟨s, hs⟩ : ∃ s, s = sameV u.v v.v := ⟨_, rfl⟩
        have HC := Lib.hid (show ∀ W, Below wr.heap.size wr W → Calls Tryz.prog 25 #[u.val, v.val] W (Ret (.bool s) W) from fun W h => by rw [hs]; exact same_c u v W (ru.up h) (rv.up h) wu wv)
        have HS := Lib.hid hs
        have HKS := Lib.hid (show p.v[k]? = some u.v by rw [LA.v, List.getElem?_map, hks]; rfl)
        have HKQ := Lib.hid (show q.v[k]? = some v.v by rw [LA.v, List.getElem?_map, hkq]; rfl)
        rw [hla, hla2]
        clear c0 c1 c2 c3 d0 d1 d2 d3 hla hla2 hks hkq hs ru rv hp0 hq0 hba
        cases s with
        | true =>
          go_wp2_with (go_at_call 25; (with_reducible refine (HC.out _ (below_al (below_al (Below.refl _ _)))).mono ?_); rintro e w5 ⟨rfl, h5⟩)
          exact ⟨⟨k + 1, by omega, by go_num, Lib.hid (below_via HBR.out (below_via (below_al (below_al (Below.refl _ _))) h5)), Lib.hid (fun j a c hj ha hc => by
            by_cases hjk : j < k
            · exact HYES.out j a c hjk ha hc
            · obtain rfl : j = k := by omega
              rw [HKS.out] at ha
              rw [HKQ.out] at hc
              injection ha with ha
              injection hc with hc
              subst ha
              subst hc
              exact HS.out.symm)⟩, by simp [intOf]; omega⟩
        | false =>
          have hrf : r = false := by rw [HR.out]; exact eqlW_no HKS.out HKQ.out HS.out.symm
          subst hrf
          go_wp2_with (go_at_call 25; (with_reducible refine (HC.out _ (below_al (below_al (Below.refl _ _)))).mono ?_); rintro e w5 ⟨rfl, h5⟩)
          go_ret
          exact ⟨rfl, below_via HBR.out (below_via (below_al (below_al (Below.refl _ _))) h5)⟩
      · have hkl : k = p.l.length := by omega
        subst hkl
        have hge : ¬ (p.l.length : Int) < (p.l.length : Int) := by omega
        have hrt : r = true := by
          rw [HR.out]
          refine eqlW_yes (by rw [LA.v, LA.v, List.length_map, List.length_map]; exact HL.out) fun i u v h1 h2 => HYES.out i u v ?_ h1 h2
          have := (List.getElem?_eq_some_iff.1 h1).1
          rwa [LA.v, List.length_map] at this
        subst hrt
        go_wp2_with fail
        go_ret
        exact ⟨rfl, HBR.out⟩
  · have hl' : ((p.l.length : Int) != (q.l.length : Int)) = true := by simp; omega
    have hrf : r = false := by rw [HR.out]; exact eqlW_len (by rw [LA.v, LA.v, List.length_map, List.length_map]; exact hl)
    subst hrf
    clear hl
    go_enter Tryz.func48, Tryz.ntmps48
    go_wp2_with fail
    go_ret
    exact ⟨rfl, Below.refl _ _⟩
set_option maxRecDepth 100000 in
set_option maxHeartbeats 6400000 in
theorem eqf_are_c (w : World) (p q : LA) (hp : p.Rd w) (hq : q.Rd w) : Calls Tryz.prog 48 #[.slice p.a p.l.length p.c, .slice q.a q.l.length q.c, .func (.func 12) #[] #[]] w (Ret (.bool (eqlW areB p.v q.v)) w) := by
  have HPR := Lib.hid (show ∀ W, Below w.heap.size w W → p.Rd W from fun W h => hp.up h)
  have HQR := Lib.hid (show ∀ W, Below w.heap.size w W → q.Rd W from fun W h => hq.up h)
  have HP := Lib.hid hp
  have HQ := Lib.hid hq
  have hpl := hp.len
  have hql := hq.len
  obtain ⟨r, hr⟩ : ∃ r, r = eqlW areB p.v q.v := ⟨_, rfl⟩
  have HR := Lib.hid hr
  rw [← hr]
  clear hp hq hr
  by_cases hl : p.l.length = q.l.length
  · have hl' : ((p.l.length : Int) != (q.l.length : Int)) = false := by simp [hl]
    have HL := Lib.hid hl
    clear hl
    go_enter Tryz.func48, Tryz.ntmps48
    go_wp2_with fail
    clear hl'
    go_loopw [17] (fun s17 wr => ∃ k : Nat, k ≤ p.l.length ∧ s17 = .int .i64 (k : Int) ∧ Hid (Below w.heap.size w wr) ∧ Hid (∀ (j : Nat) (u v : Val), j < k → p.v[j]? = some u → q.v[j]? = some v → areB u v = true)) (fun s17 _ => p.l.length - (intOf s17).toNat)
    case atStart => exact ⟨0, Nat.zero_le _, rfl, Lib.hid (Below.refl _ _), Lib.hid (fun j u v h => absurd h (Nat.not_lt_zero _))⟩
    case round =>
      obtain ⟨k, hk, rfl, HBR, HYES⟩ := hrel
      by_cases hlt : k < p.l.length
      · have hlq : k < q.l.length := by rw [← HL.out]; exact hlt
        have hks : p.l[k]? = some p.l[k] := List.getElem?_eq_getElem hlt
        have hkq : q.l[k]? = some q.l[k] := List.getElem?_eq_getElem hlq
        generalize p.l[k] = u at *
        generalize q.l[k] = v at *
        have hlt' : (k : Int) < (p.l.length : Int) := by omega
        have hlq' : (k : Int) < (q.l.length : Int) := by omega
        have hk0 : (0 : Int) ≤ (k : Int) := by omega
        have hp0 := HP.out.sl
        have hq0 := HQ.out.sl
        obtain ⟨b, off, hla, -, -, -, c0, c1, c2, c3⟩ := vals_at hp0 hks
        obtain ⟨b2, off2, hla2, -, -, -, d0, d1, d2, d3⟩ := vals_at hq0 hkq
        have k1 := blkv HBR.out c0
        have k2 := blkv HBR.out c1
        have k3 := blkv HBR.out c2
        have k4 := blkv HBR.out c3
        have hba : ∀ o, Below wr.heap.size wr (wr.alloc o) := fun o => below_al (Below.refl _ _)
        have m1 := fun o => blkv (below_via HBR.out (hba o)) d0
        have m2 := fun o => blkv (below_via HBR.out (hba o)) d1
        have m3 := fun o => blkv (below_via HBR.out (hba o)) d2
        have m4 := fun o => blkv (below_via HBR.out (hba o)) d3
        obtain ⟨ru, wu⟩ := (HPR.out wr HBR.out).kids u (List.mem_of_getElem? hks)
        obtain ⟨rv, wv⟩ := (HQR.out wr HBR.out).kids v (List.mem_of_getElem? hkq)
        obtain ⟨s, hs⟩ : ∃ s, s = areB u.v v.v := ⟨_, rfl⟩
        have HC := Lib.hid (show ∀ W, Below wr.heap.size wr W → Calls Tryz.prog 12 #[u.val, v.val] W (Ret (.bool s) W) from fun W h => by rw [hs]; exact are21_c W u v (ru.up h) (rv.up h) wu wv)
        have HS := Lib.hid hs
        have HKS := Lib.hid (show p.v[k]? = some u.v by rw [LA.v, List.getElem?_map, hks]; rfl)
        have HKQ := Lib.hid (show q.v[k]? = some v.v by rw [LA.v, List.getElem?_map, hkq]; rfl)
        rw [hla, hla2]
        clear c0 c1 c2 c3 d0 d1 d2 d3 hla hla2 hks hkq hs ru rv hp0 hq0 hba
        cases s with
        | true =>
          go_wp2_with (go_at_call 12; (with_reducible refine (HC.out _ (below_al (below_al (Below.refl _ _)))).mono ?_); rintro e w5 ⟨rfl, h5⟩)
          exact ⟨⟨k + 1, by omega, by go_num, Lib.hid (below_via HBR.out (below_via (below_al (below_al (Below.refl _ _))) h5)), Lib.hid (fun j a c hj ha hc => by
            by_cases hjk : j < k
            · exact HYES.out j a c hjk ha hc
            · obtain rfl : j = k := by omega
              rw [HKS.out] at ha
              rw [HKQ.out] at hc
              injection ha with ha
              injection hc with hc
              subst ha
              subst hc
              exact HS.out.symm)⟩, by simp [intOf]; omega⟩
        | false =>
          have hrf : r = false := by rw [HR.out]; exact eqlW_no HKS.out HKQ.out HS.out.symm
          subst hrf
          go_wp2_with (go_at_call 12; (with_reducible refine (HC.out _ (below_al (below_al (Below.refl _ _)))).mono ?_); rintro e w5 ⟨rfl, h5⟩)
          go_ret
          exact ⟨rfl, below_via HBR.out (below_via (below_al (below_al (Below.refl _ _))) h5)⟩
      · have hkl : k = p.l.length := by omega
        subst hkl
        have hge : ¬ (p.l.length : Int) < (p.l.length : Int) := by omega
        have hrt : r = true := by
          rw [HR.out]
          refine eqlW_yes (by rw [LA.v, LA.v, List.length_map, List.length_map]; exact HL.out) fun i u v h1 h2 => HYES.out i u v ?_ h1 h2
          have := (List.getElem?_eq_some_iff.1 h1).1
          rwa [LA.v, List.length_map] at this
        subst hrt
        go_wp2_with fail
        go_ret
        exact ⟨rfl, HBR.out⟩
  · have hl' : ((p.l.length : Int) != (q.l.length : Int)) = true := by simp; omega
    have hrf : r = false := by rw [HR.out]; exact eqlW_len (by rw [LA.v, LA.v, List.length_map, List.length_map]; exact hl)
    subst hrf
    clear hl
    go_enter Tryz.func48, Tryz.ntmps48
    go_wp2_with fail
    go_ret
    exact ⟨rfl, Below.refl _ _⟩
set_option maxRecDepth 100000 in
theorem psame_c (w : World) (p q : LA) (hp : p.Rd w) (hq : q.Rd w) : Calls Tryz.prog 44 #[.slice p.a p.l.length p.c, .slice q.a q.l.length q.c] w (Ret (.bool (eqlW sameV p.v q.v)) w) := by
  have HS := Lib.hid (eqf_same_c w p q hp hq)
  clear hp hq
  go_enter Tryz.func44, Tryz.ntmps44
  go_wp2_with (go_at_call 48; (with_reducible refine HS.out.mono ?_); rintro e w2 ⟨rfl, h⟩)
  go_ret
  exact ⟨rfl, h⟩
set_option maxRecDepth 100000 in
theorem of29_1 (w : World) (n1 n2 : Nat) (p q : LA) (hp : p.Rd w) (hq : q.Rd w) (h1 : w.cell? ⟨n1, 0, none⟩ = some (.slice p.a p.l.length p.c)) (h2 : w.cell? ⟨n2, 0, none⟩ = some (.slice q.a q.l.length q.c)) :
    Calls Tryz.prog 43 #[.pointer (some ⟨n1, 0, none⟩), .pointer (some ⟨n2, 0, none⟩)] w (Ret (.bool (eqlW sameV p.v q.v)) w) := by
  have HS := Lib.hid (psame_c w p q hp hq)
  clear hp hq
  go_enter Tryz.func43, Tryz.ntmps43
  go_wp2_with (go_at_call 44; (with_reducible refine HS.out.mono ?_); rintro e w2 ⟨rfl, h⟩)
  go_ret
  exact ⟨rfl, h⟩
set_option maxRecDepth 100000 in
theorem of29_2 (w : World) (n1 n2 : Nat) (p q : LA) (hp : p.Rd w) (hq : q.Rd w) (h1 : w.cell? ⟨n1, 0, none⟩ = some (.slice p.a p.l.length p.c)) (h2 : w.cell? ⟨n2, 0, none⟩ = some (.slice q.a q.l.length q.c)) :
    Calls Tryz.prog 45 #[.pointer (some ⟨n1, 0, none⟩), .pointer (some ⟨n2, 0, none⟩)] w (Ret (.bool (eqlW sameV p.v q.v)) w) := by
  have HS := Lib.hid (psame_c w p q hp hq)
  clear hp hq
  go_enter Tryz.func45, Tryz.ntmps45
  go_wp2_with (go_at_call 44; (with_reducible refine HS.out.mono ?_); rintro e w2 ⟨rfl, h⟩)
  go_ret
  exact ⟨rfl, h⟩
set_option maxRecDepth 100000 in
theorem of29_3 (w : World) (n1 n2 : Nat) (p q : LA) (hp : p.Rd w) (hq : q.Rd w) (h1 : w.cell? ⟨n1, 0, none⟩ = some (.slice p.a p.l.length p.c)) (h2 : w.cell? ⟨n2, 0, none⟩ = some (.slice q.a q.l.length q.c)) :
    Calls Tryz.prog 46 #[.pointer (some ⟨n1, 0, none⟩), .pointer (some ⟨n2, 0, none⟩)] w (Ret (.bool (eqlW sameV p.v q.v)) w) := by
  have HS := Lib.hid (psame_c w p q hp hq)
  clear hp hq
  go_enter Tryz.func46, Tryz.ntmps46
  go_wp2_with (go_at_call 44; (with_reducible refine HS.out.mono ?_); rintro e w2 ⟨rfl, h⟩)
  go_ret
  exact ⟨rfl, h⟩
set_option maxRecDepth 100000 in
theorem of29_4 (w : World) (n1 n2 n3 : Nat) (p q r : LA) (hp : p.Rd w) (hq : q.Rd w) (hr : r.Rd w) (h1 : w.cell? ⟨n1, 0, none⟩ = some (.slice p.a p.l.length p.c)) (h2 : w.cell? ⟨n2, 0, none⟩ = some (.slice q.a q.l.length q.c)) (h3 : w.cell? ⟨n3, 0, none⟩ = some (.slice r.a r.l.length r.c)) :
    Calls Tryz.prog 47 #[.pointer (some ⟨n1, 0, none⟩), .pointer (some ⟨n2, 0, none⟩), .pointer (some ⟨n3, 0, none⟩)] w (Ret (.bool (eqlW areB p.v q.v && eqlW areB p.v r.v)) w) := by
  have HS := Lib.hid (eqf_are_c w p q hp hq)
  have HS2 := fun W (h : Below w.heap.size w W) => Lib.hid (eqf_are_c W p r (hp.up h) (hr.up h))
  have H1 := fun W (h : Below w.heap.size w W) => Lib.hid (And.intro (blkv h h1) (blkv h h3))
  obtain ⟨x, hx⟩ : ∃ x, x = eqlW areB p.v q.v := ⟨_, rfl⟩
  obtain ⟨y, hy⟩ : ∃ y, y = eqlW areB p.v r.v := ⟨_, rfl⟩
  rw [← hx] at HS ⊢
  rw [← hy] at HS2 ⊢
  clear hp hq hr hx hy
  cases x with
  | false =>
    go_enter Tryz.func47, Tryz.ntmps47
    go_wp2_with (go_at_call 48; (with_reducible refine HS.out.mono ?_); rintro e w2 ⟨rfl, h⟩)
    go_ret
    exact ⟨rfl, h⟩
  | true =>
    go_enter Tryz.func47, Tryz.ntmps47
    go_wp2_with (first
      | (have kq := HB2; go_at_call 48; (with_reducible refine (HS2 _ HB2.out).out.mono ?_); rintro e w3 ⟨rfl, hh⟩)
      | (go_at_call 48; (with_reducible refine HS.out.mono ?_); rintro e w2 ⟨rfl, h⟩; have HB2 := Lib.hid h; obtain ⟨h1, h3⟩ := (H1 w2 h).out; clear h))
    go_ret
    exact ⟨rfl, below_via HB2.out hh⟩
end Go.Proofs.YtmhkacafilpliaaGreat

namespace Go.Proofs.YtmhkacafilpliaaGreat
open Go.RowKit Go.Sort Go.Shelf Go.BigFrame

/-- Which side is taken: 0 left, 1 right, 2 in pairs, 3 none. -/
def pickO (b l r : List Val) : Int :=
  if eqlW sameV l r then 0 else if eqlW sameV b l then 1 else if eqlW sameV b r then 0 else if eqlW areB b l && eqlW areB b r then 2 else 3
theorem cell_two (w : World) (t : TypeId) (u v : Value) : (w.alloc (.cells #[u, v] t)).cell? ⟨w.heap.size, 0, none⟩ = some u := by
  have h := heap_alloc_new w (.cells #[u, v] t)
  exact (Go.Joins.cell_of_block h 0).trans rfl
theorem st_two (w : World) (t : TypeId) (u v : Value) (f : Fn) (xs ys : Array Value) : Sem.run Tryz.prog (store ⟨w.heap.size, 1, none⟩ (.func f xs ys)) (w.alloc (.cells #[u, v] t)) = .ok () (w.alloc (.cells #[u, .func f xs ys] t)) := by
  rw [run_store _ _ _ _ _ rfl]
  simp [World.setCell_alloc_at]
set_option maxRecDepth 100000 in
set_option maxHeartbeats 6400000 in
theorem pof29_c (w : World) (b l r : LA) (hb : b.Rd w) (hl : l.Rd w) (hr : r.Rd w) : Calls Tryz.prog 21 #[.slice b.a b.l.length b.c, .slice l.a l.l.length l.c, .slice r.a r.l.length r.c] w (Ret (.int .u8 (pickO b.v l.v r.v)) w) := by
  have HC1 := fun n1 n2 W (h : Below w.heap.size w W) h1 h2 => of29_1 W n1 n2 l r (hl.up h) (hr.up h) h1 h2
  have HC2 := fun n1 n2 W (h : Below w.heap.size w W) h1 h2 => of29_2 W n1 n2 b l (hb.up h) (hl.up h) h1 h2
  have HC3 := fun n1 n2 W (h : Below w.heap.size w W) h1 h2 => of29_3 W n1 n2 b r (hb.up h) (hr.up h) h1 h2
  have HC4 := fun n1 n2 n3 W (h : Below w.heap.size w W) h1 h2 h3 => of29_4 W n1 n2 n3 b l r (hb.up h) (hl.up h) (hr.up h) h1 h2 h3
  obtain ⟨x1, hx1⟩ : ∃ x, x = eqlW sameV l.v r.v := ⟨_, rfl⟩
  obtain ⟨x2, hx2⟩ : ∃ x, x = eqlW sameV b.v l.v := ⟨_, rfl⟩
  obtain ⟨x3, hx3⟩ : ∃ x, x = eqlW sameV b.v r.v := ⟨_, rfl⟩
  obtain ⟨x4, hx4⟩ : ∃ x, x = (eqlW areB b.v l.v && eqlW areB b.v r.v) := ⟨_, rfl⟩
  rw [← hx1] at HC1
  rw [← hx2] at HC2
  rw [← hx3] at HC3
  rw [← hx4] at HC4
  obtain ⟨z, hz⟩ : ∃ z, z = pickO b.v l.v r.v := ⟨_, rfl⟩
  rw [← hz]
  have HR := Lib.hid (show z = if x1 then 0 else if x2 then 1 else if x3 then 0 else if x4 then 2 else 3 by rw [hz, pickO, hx1, hx2, hx3, hx4])
  have HC1 := Lib.hid HC1
  have HC2 := Lib.hid HC2
  have HC3 := Lib.hid HC3
  have HC4 := Lib.hid HC4
  clear hb hl hr hx1 hx2 hx3 hx4 hz
  go_enter Tryz.func21, Tryz.ntmps21
  go_upto_region 1 with fail
  go_name_world W0 hW0
  have hb0 : Below w.heap.size w W0 := by rw [← hW0]; exact (((Below.refl _ _).alloc (Nat.le_refl _) _).alloc (by simp) _).alloc (by simp; omega) _
  have k4 : W0.heap[w.heap.size]? = some (.cells #[.slice b.a b.l.length b.c] 23 (0, 0)) := by rw [← hW0]; exact (heap_alloc_old _ _ _ (by simp; omega)).trans ((heap_alloc_old _ _ _ (by simp)).trans (heap_alloc_new w _))
  have k5 : W0.heap[w.heap.size + 1]? = some (.cells #[.slice l.a l.l.length l.c] 23 (0, 0)) := by
    rw [← hW0]
    have := heap_alloc_new (w.alloc (.cells #[.slice b.a b.l.length b.c] 23)) (.cells #[.slice l.a l.l.length l.c] 23)
    rw [World.size_alloc] at this
    exact (heap_alloc_old _ _ _ (by simp)).trans this
  have k6 : W0.heap[w.heap.size + 1 + 1]? = some (.cells #[.slice r.a r.l.length r.c] 23 (0, 0)) := by
    rw [← hW0]
    have := heap_alloc_new ((w.alloc (.cells #[.slice b.a b.l.length b.c] 23)).alloc (.cells #[.slice l.a l.l.length l.c] 23)) (.cells #[.slice r.a r.l.length r.c] 23)
    rwa [World.size_alloc, World.size_alloc] at this
  have c4 : W0.cell? ⟨w.heap.size, 0, none⟩ = some (.slice b.a b.l.length b.c) := by simp [World.cell?, k4]
  have c5 : W0.cell? ⟨w.heap.size + 1, 0, none⟩ = some (.slice l.a l.l.length l.c) := by simp [World.cell?, k5]
  have c6 : W0.cell? ⟨w.heap.size + 1 + 1, 0, none⟩ = some (.slice r.a r.l.length r.c) := by simp [World.cell?, k6]
  have HC1 := Lib.hid (show ∀ W, Below W0.heap.size W0 W → _ from fun W h => HC1.out (w.heap.size + 1) (w.heap.size + 1 + 1) W (below_via hb0 h) (blkv h c5) (blkv h c6))
  have HC2 := Lib.hid (show ∀ W, Below W0.heap.size W0 W → _ from fun W h => HC2.out (w.heap.size) (w.heap.size + 1) W (below_via hb0 h) (blkv h c4) (blkv h c5))
  have HC3 := Lib.hid (show ∀ W, Below W0.heap.size W0 W → _ from fun W h => HC3.out (w.heap.size) (w.heap.size + 1 + 1) W (below_via hb0 h) (blkv h c4) (blkv h c6))
  have HC4 := Lib.hid (show ∀ W, Below W0.heap.size W0 W → _ from fun W h => HC4.out (w.heap.size) (w.heap.size + 1) (w.heap.size + 1 + 1) W (below_via hb0 h) (blkv h c4) (blkv h c5) (blkv h c6))
  have HB0 := Lib.hid hb0
  clear hW0 k4 k5 k6 c4 c5 c6 hb0
  go_upto_region 2 with fail
  go_name_world W1 hW1
  have hall : W1.heap[W0.heap.size]? = some (.cells #[.int .u8 0, .func (.func 43) #[] #[.pointer (some ⟨w.heap.size + 1, 0, none⟩), .pointer (some ⟨w.heap.size + 1 + 1, 0, none⟩)], .int .u8 1, .func (.func 45) #[] #[.pointer (some ⟨w.heap.size, 0, none⟩), .pointer (some ⟨w.heap.size + 1, 0, none⟩)], .int .u8 0, .func (.func 46) #[] #[.pointer (some ⟨w.heap.size, 0, none⟩), .pointer (some ⟨w.heap.size + 1 + 1, 0, none⟩)], .int .u8 2, .func (.func 47) #[] #[.pointer (some ⟨w.heap.size, 0, none⟩), .pointer (some ⟨w.heap.size + 1, 0, none⟩), .pointer (some ⟨w.heap.size + 1 + 1, 0, none⟩)]] 54 (0, 0)) := by rw [← hW1]; exact heap_alloc_new W0 _
  have hb1 : Below W0.heap.size W0 W1 := by rw [← hW1]; exact (Below.refl _ _).alloc (Nat.le_refl _) _
  have c0 : W1.cell? ⟨W0.heap.size, 0, none⟩ = some (.int .u8 0) := (Go.Joins.cell_of_block hall 0).trans rfl
  have c1 : W1.cell? ⟨W0.heap.size, 1, none⟩ = some (.func (.func 43) #[] #[.pointer (some ⟨w.heap.size + 1, 0, none⟩), .pointer (some ⟨w.heap.size + 1 + 1, 0, none⟩)]) := (Go.Joins.cell_of_block hall 1).trans rfl
  have c2 : W1.cell? ⟨W0.heap.size, 2, none⟩ = some (.int .u8 1) := (Go.Joins.cell_of_block hall 2).trans rfl
  have c3 : W1.cell? ⟨W0.heap.size, 3, none⟩ = some (.func (.func 45) #[] #[.pointer (some ⟨w.heap.size, 0, none⟩), .pointer (some ⟨w.heap.size + 1, 0, none⟩)]) := (Go.Joins.cell_of_block hall 3).trans rfl
  have c4 : W1.cell? ⟨W0.heap.size, 4, none⟩ = some (.int .u8 0) := (Go.Joins.cell_of_block hall 4).trans rfl
  have c5 : W1.cell? ⟨W0.heap.size, 5, none⟩ = some (.func (.func 46) #[] #[.pointer (some ⟨w.heap.size, 0, none⟩), .pointer (some ⟨w.heap.size + 1 + 1, 0, none⟩)]) := (Go.Joins.cell_of_block hall 5).trans rfl
  have c6 : W1.cell? ⟨W0.heap.size, 6, none⟩ = some (.int .u8 2) := (Go.Joins.cell_of_block hall 6).trans rfl
  have c7 : W1.cell? ⟨W0.heap.size, 7, none⟩ = some (.func (.func 47) #[] #[.pointer (some ⟨w.heap.size, 0, none⟩), .pointer (some ⟨w.heap.size + 1, 0, none⟩), .pointer (some ⟨w.heap.size + 1 + 1, 0, none⟩)]) := (Go.Joins.cell_of_block hall 7).trans rfl
  have HBW := Lib.hid (below_via HB0.out hb1)
  have HB1 := Lib.hid hb1
  clear hW1 hall hb1
  go_loopw [19] (fun s19 wr => ∃ k : Nat, k ≤ 4 ∧ s19 = .int .i64 (k : Int) ∧ Hid (Below W1.heap.size W1 wr) ∧ (0 < k → x1 = false) ∧ (1 < k → x2 = false) ∧ (2 < k → x3 = false) ∧ (3 < k → x4 = false)) (fun s19 _ => 4 - (intOf s19).toNat)
  case atStart => exact ⟨0, by omega, rfl, Lib.hid (Below.refl _ _), fun h => absurd h (by omega), fun h => absurd h (by omega), fun h => absurd h (by omega), fun h => absurd h (by omega)⟩
  case round =>
    obtain ⟨k, hk, rfl, HBR, hf1, hf2, hf3, hf4⟩ := hrel
    have hba : ∀ o, Below wr.heap.size wr (wr.alloc o) := fun o => below_al (Below.refl _ _)
    have k0 := blkv HBR.out c0
    have m0 := fun o => blkv (below_via HBR.out (hba o)) c0
    have k1 := blkv HBR.out c1
    have m1 := fun o => blkv (below_via HBR.out (hba o)) c1
    have k2 := blkv HBR.out c2
    have m2 := fun o => blkv (below_via HBR.out (hba o)) c2
    have k3 := blkv HBR.out c3
    have m3 := fun o => blkv (below_via HBR.out (hba o)) c3
    have k4 := blkv HBR.out c4
    have m4 := fun o => blkv (below_via HBR.out (hba o)) c4
    have k5 := blkv HBR.out c5
    have m5 := fun o => blkv (below_via HBR.out (hba o)) c5
    have k6 := blkv HBR.out c6
    have m6 := fun o => blkv (below_via HBR.out (hba o)) c6
    have k7 := blkv HBR.out c7
    have m7 := fun o => blkv (below_via HBR.out (hba o)) c7
    have HC1 := Lib.hid (show ∀ W, Below wr.heap.size wr W → _ from fun W h => HC1.out W (below_via HB1.out (below_via HBR.out h)))
    have HC2 := Lib.hid (show ∀ W, Below wr.heap.size wr W → _ from fun W h => HC2.out W (below_via HB1.out (below_via HBR.out h)))
    have HC3 := Lib.hid (show ∀ W, Below wr.heap.size wr W → _ from fun W h => HC3.out W (below_via HB1.out (below_via HBR.out h)))
    have HC4 := Lib.hid (show ∀ W, Below wr.heap.size wr W → _ from fun W h => HC4.out W (below_via HB1.out (below_via HBR.out h)))
    clear c0 c1 c2 c3 c4 c5 c6 c7
    have hst := st_two wr
    have hkk : k = 0 ∨ k = 1 ∨ k = 2 ∨ k = 3 ∨ k = 4 := by omega
    rcases hkk with rfl | rfl | rfl | rfl | rfl
    · clear hk
      cases x1 with
      | true =>
        obtain rfl : z = 0 := by rw [HR.out]; rfl
        go_wp2_with (go_at_call 43; (with_reducible refine (HC1.out _ (hba _)).mono ?_); rintro e w5 ⟨rfl, h5⟩; have kk := blkv h5 (a := ⟨wr.heap.size, 0, none⟩) (v := .int .u8 0) (cell_two wr _ _ _); skip)
        go_ret
        exact ⟨rfl, below_via HBW.out (below_via HBR.out (below_via (hba _) h5))⟩
      | false =>
        go_wp2_with (go_at_call 43; (with_reducible refine (HC1.out _ (hba _)).mono ?_); rintro e w5 ⟨rfl, h5⟩; skip)
        exact ⟨⟨1, by omega, by go_num, Lib.hid (below_via HBR.out (below_via (hba _) h5)), fun _ => (by first | rfl | trivial), fun h => absurd h (by omega), fun h => absurd h (by omega), fun h => absurd h (by omega)⟩, by simp [intOf]⟩
    · clear hk
      obtain rfl : x1 = false := hf1 (by omega)
      cases x2 with
      | true =>
        obtain rfl : z = 1 := by rw [HR.out]; rfl
        go_wp2_with (go_at_call 45; (with_reducible refine (HC2.out _ (hba _)).mono ?_); rintro e w5 ⟨rfl, h5⟩; have kk := blkv h5 (a := ⟨wr.heap.size, 0, none⟩) (v := .int .u8 1) (cell_two wr _ _ _); skip)
        go_ret
        exact ⟨rfl, below_via HBW.out (below_via HBR.out (below_via (hba _) h5))⟩
      | false =>
        go_wp2_with (go_at_call 45; (with_reducible refine (HC2.out _ (hba _)).mono ?_); rintro e w5 ⟨rfl, h5⟩; skip)
        exact ⟨⟨2, by omega, by go_num, Lib.hid (below_via HBR.out (below_via (hba _) h5)), fun _ => (by first | rfl | trivial), fun _ => (by first | rfl | trivial), fun h => absurd h (by omega), fun h => absurd h (by omega)⟩, by simp [intOf]⟩
    · clear hk
      obtain rfl : x1 = false := hf1 (by omega)
      obtain rfl : x2 = false := hf2 (by omega)
      cases x3 with
      | true =>
        obtain rfl : z = 0 := by rw [HR.out]; rfl
        go_wp2_with (go_at_call 46; (with_reducible refine (HC3.out _ (hba _)).mono ?_); rintro e w5 ⟨rfl, h5⟩; have kk := blkv h5 (a := ⟨wr.heap.size, 0, none⟩) (v := .int .u8 0) (cell_two wr _ _ _); skip)
        go_ret
        exact ⟨rfl, below_via HBW.out (below_via HBR.out (below_via (hba _) h5))⟩
      | false =>
        go_wp2_with (go_at_call 46; (with_reducible refine (HC3.out _ (hba _)).mono ?_); rintro e w5 ⟨rfl, h5⟩; skip)
        exact ⟨⟨3, by omega, by go_num, Lib.hid (below_via HBR.out (below_via (hba _) h5)), fun _ => (by first | rfl | trivial), fun _ => (by first | rfl | trivial), fun _ => (by first | rfl | trivial), fun h => absurd h (by omega)⟩, by simp [intOf]⟩
    · clear hk
      obtain rfl : x1 = false := hf1 (by omega)
      obtain rfl : x2 = false := hf2 (by omega)
      obtain rfl : x3 = false := hf3 (by omega)
      cases x4 with
      | true =>
        obtain rfl : z = 2 := by rw [HR.out]; rfl
        go_wp2_with (go_at_call 47; (with_reducible refine (HC4.out _ (hba _)).mono ?_); rintro e w5 ⟨rfl, h5⟩; have kk := blkv h5 (a := ⟨wr.heap.size, 0, none⟩) (v := .int .u8 2) (cell_two wr _ _ _); skip)
        go_ret
        exact ⟨rfl, below_via HBW.out (below_via HBR.out (below_via (hba _) h5))⟩
      | false =>
        go_wp2_with (go_at_call 47; (with_reducible refine (HC4.out _ (hba _)).mono ?_); rintro e w5 ⟨rfl, h5⟩; skip)
        exact ⟨⟨4, by omega, by go_num, Lib.hid (below_via HBR.out (below_via (hba _) h5)), fun _ => (by first | rfl | trivial), fun _ => (by first | rfl | trivial), fun _ => (by first | rfl | trivial), fun _ => (by first | rfl | trivial)⟩, by simp [intOf]⟩
    · obtain rfl : x1 = false := hf1 (by omega)
      obtain rfl : x2 = false := hf2 (by omega)
      obtain rfl : x3 = false := hf3 (by omega)
      obtain rfl : x4 = false := hf4 (by omega)
      obtain rfl : z = 3 := by rw [HR.out]; rfl
      go_wp2_with fail
      go_ret
      exact ⟨rfl, below_via HBW.out HBR.out⟩
end Go.Proofs.YtmhkacafilpliaaGreat

namespace Go.Proofs.YtmhkacafilpliaaGreat
open Go.RowKit Go.Sort Go.Shelf Go.BigFrame

/-- Is a value among these? -/
def hasV (v : Val) (l : List Val) : Bool := l.any fun x => sameV v x
theorem hasV_yes {v x : Val} {l : List Val} {k : Nat} (h : l[k]? = some x) (hs : sameV v x = true) : hasV v l = true := by
  rw [hasV, List.any_eq_true]
  exact ⟨x, List.mem_of_getElem? h, hs⟩
theorem hasV_no {v : Val} {l : List Val} (h : ∀ (k : Nat) (x : Val), l[k]? = some x → sameV v x = false) : hasV v l = false := by
  rw [hasV, List.any_eq_false]
  intro x hx
  obtain ⟨k, hk⟩ := List.mem_iff_getElem?.1 hx
  rw [h k x hk]
  exact Bool.false_ne_true
/-- The first places of a row that are not in another. -/
def restN (L R : List Val) (k : Nat) : List Nat := (List.range k).filter fun i => match R[i]? with
  | some v => !hasV v L
  | none => false
theorem restN_len (L R : List Val) (k : Nat) : (restN L R k).length ≤ k := by
  have := List.length_filter_le (fun i => match R[i]? with
  | some v => !hasV v L
  | none => false) (List.range k)
  rwa [List.length_range] at this
theorem restN_no {L R : List Val} {k : Nat} {v : Val} (h : R[k]? = some v) (hh : hasV v L = true) : restN L R (k + 1) = restN L R k := by
  rw [restN, List.range_succ, List.filter_append, restN]
  simp [h, hh]
theorem restN_yes {L R : List Val} {k : Nat} {v : Val} (h : R[k]? = some v) (hh : hasV v L = false) : restN L R (k + 1) = restN L R k ++ [k] := by
  rw [restN, List.range_succ, List.filter_append, restN]
  simp [h, hh]
def RestPost (p : List Nat) (w : World) (e : Ending) (w' : World) : Prop :=
  ∃ a, e = .returned (.slice a p.length p.length) ∧ SlE natE 1 w' w.heap.size w'.heap.size a p ∧ Below w.heap.size w w'
theorem app_in {w : World} {base : Nat} {v : Value} {l : List Nat} (hown : w.ownsRow base 3 1 v l.length (l.flatMap natE)) {lo hi : Nat} {A : Option Addr} {m : List Nat} {c : Nat} (hr : SlE natE 1 w lo hi A m) (hn : l.length + m.length ≤ 16777216) (hbase : base ≤ w.heap.size) :
    ∃ v' w', (∀ ty, (Builtin.append_ #[35, 35] ty #[v, .slice A m.length c]).run Tryz.prog w = .ok v' w') ∧ w'.ownsRow base 3 1 v' (l ++ m).length ((l ++ m).flatMap natE) ∧ w.grownBy w' v.ownBlock ∧ (v'.ownBlock = v.ownBlock ∨ v'.ownBlock = some w.heap.size) := by
  obtain ⟨i0, hi0, hz0, hz1, hz2⟩ := info_parts info_in
  obtain ⟨v', w', h1, h2, h3, h4⟩ := run_append_sl (P := Tryz.prog) w natE base 35 0 3 i0 _ 1 8 Tryz.underlying35 hi0 hz0 hz1 hz2 rfl (by omega) (by omega) v l.length _ hown lo hi A m c hr (fun _ => rfl) (fun x u hu => by simp at hu; subst hu; rfl) hn hbase
  exact ⟨v', w', fun ty => h1, by simp only [List.length_append, List.flatMap_append]; exact h2, h3, h4⟩
theorem own_formI {w : World} {base : Nat} {v : Value} {l : List Nat} (h : w.ownsRow base 3 1 v l.length (l.flatMap natE)) : ∃ a c, v = .slice a l.length c := by
  rcases h.2 with ⟨e, h0⟩ | ⟨g, cap, cur, e, _⟩
  · exact ⟨none, 0, by rw [e, h0]⟩
  · exact ⟨_, _, e⟩
/-- Its four parts lie in a box. -/
def BoxV (w : World) (n : Nat) (u : AV) : Prop :=
  w.cell? ⟨n, 0, none⟩ = some (.int .u8 u.k) ∧ w.cell? ⟨n, 1, none⟩ = some (.string u.t) ∧ w.cell? ⟨n, 2, none⟩ = some (.slice u.la u.l.length u.lc) ∧ w.cell? ⟨n, 3, none⟩ = some (.slice u.ka u.ks.length u.kc)
theorem BoxV.up {w W : World} {n : Nat} {u : AV} (h : BoxV w n u) (hb : Below w.heap.size w W) : BoxV W n u := ⟨blkv hb h.1, blkv hb h.2.1, blkv hb h.2.2.1, blkv hb h.2.2.2⟩
theorem BoxV.new (w : World) (u : AV) (t : TypeId) : BoxV (w.alloc (.cells #[.int .u8 u.k, .string u.t, .slice u.la u.l.length u.lc, .slice u.ka u.ks.length u.kc] t (0, 0))) w.heap.size u := by
  have h := heap_alloc_new w (.cells #[.int .u8 u.k, .string u.t, .slice u.la u.l.length u.lc, .slice u.ka u.ks.length u.kc] t (0, 0))
  exact ⟨(Go.Joins.cell_of_block h 0).trans rfl, (Go.Joins.cell_of_block h 1).trans rfl, (Go.Joins.cell_of_block h 2).trans rfl, (Go.Joins.cell_of_block h 3).trans rfl⟩
set_option maxRecDepth 100000 in
theorem rest1_c (w : World) (n : Nat) (u x : AV) (hu : Rd w u) (hx : Rd w x) (wu : u.w ≤ 1048576) (wx : x.w ≤ 1048576) (hb : BoxV w n u) :
    Calls Tryz.prog 41 #[x.val, .pointer (some ⟨n, 0, none⟩)] w (Ret (.bool (sameV u.v x.v)) w) := by
  have HS := fun W (h : Below w.heap.size w W) => Lib.hid (same_c u x W (hu.up h) (hx.up h) wu wx)
  have hba : ∀ o, Below w.heap.size w (w.alloc o) := fun o => below_al (Below.refl _ _)
  obtain ⟨h0, h1, h2, h3⟩ := hb
  have m0 := fun o => blkv (hba o) h0
  have m1 := fun o => blkv (hba o) h1
  have m2 := fun o => blkv (hba o) h2
  have m3 := fun o => blkv (hba o) h3
  clear hu hx hba
  go_enter Tryz.func41, Tryz.ntmps41
  go_wp2_with (go_at_call 25; (with_reducible refine (HS _ (below_al (Below.refl _ _))).out.mono ?_); rintro e w2 ⟨rfl, h⟩)
  go_ret
  exact ⟨rfl, below_via (below_al (Below.refl _ _)) h⟩
/-- A list that may be longer than an argument. -/
structure LA.Rw (w : World) (x : LA) : Prop where
  sl : SlE AV.enc 4 w 0 w.heap.size x.a x.l
  len : x.l.length ≤ 4194304
  kids : ∀ y ∈ x.l, Go.Proofs.YtmhkacafilpliaaGreat.Rd w y ∧ y.w ≤ 1048576
theorem LA.Rw.up {w w' : World} {x : LA} (h : x.Rw w) (hb : Below w.heap.size w w') : x.Rw w' := ⟨h.sl.up hb, h.len, fun y hy => ⟨(h.kids y hy).1.up hb, (h.kids y hy).2⟩⟩
theorem LA.Rd.rw {w : World} {x : LA} (h : x.Rd w) : x.Rw w := ⟨h.sl, Nat.le_trans h.len (by omega), h.kids⟩
set_option maxRecDepth 100000 in
set_option maxHeartbeats 3200000 in
theorem idxf_rest (w : World) (n : Nat) (u : AV) (p : LA) (hu : Rd w u) (wu : u.w ≤ 1048576) (hb : BoxV w n u) (hp : p.Rw w) :
    Calls Tryz.prog 59 #[.slice p.a p.l.length p.c, .func (.func 41) #[] #[.pointer (some ⟨n, 0, none⟩)]] w (fun e w' => ∃ i : Int, e = .returned (.int .i64 i) ∧ decide (i ≥ 0) = hasV u.v p.v ∧ Below w.heap.size w w') := by
  have HP := Lib.hid hp
  have hpl := hp.len
  have HU := Lib.hid (show ∀ (x : AV) W, x ∈ p.l → Below w.heap.size w W → Calls Tryz.prog 41 #[x.val, .pointer (some ⟨n, 0, none⟩)] W (Ret (.bool (sameV u.v x.v)) W) from fun x W hx h => by
    obtain ⟨rx, wx⟩ := (hp.up h).kids x hx
    exact rest1_c W n u x (hu.up h) rx wu wx (hb.up h))
  clear hp hu hb
  go_enter Tryz.func59, Tryz.ntmps59
  go_wp2_with fail
  go_loopw [8] (fun s8 wr => ∃ k : Nat, k ≤ p.l.length ∧ s8 = .int .i64 (k : Int) ∧ Hid (Below w.heap.size w wr) ∧ Hid (∀ (j : Nat) (x : Val), j < k → p.v[j]? = some x → sameV u.v x = false)) (fun s8 _ => p.l.length - (intOf s8).toNat)
  case atStart => exact ⟨0, Nat.zero_le _, rfl, Lib.hid (Below.refl _ _), Lib.hid (fun j x h => absurd h (Nat.not_lt_zero _))⟩
  case round =>
    obtain ⟨k, hk, rfl, HBR, HNO⟩ := hrel
    by_cases hlt : k < p.l.length
    · have hks : p.l[k]? = some p.l[k] := List.getElem?_eq_getElem hlt
      generalize p.l[k] = x at *
      have hlt' : (k : Int) < (p.l.length : Int) := by omega
      have hk0 : (0 : Int) ≤ (k : Int) := by omega
      have hp0 := HP.out.sl
      obtain ⟨b, off, hla, -, -, -, c0, c1, c2, c3⟩ := vals_at hp0 hks
      have k1 := blkv HBR.out c0
      have k2 := blkv HBR.out c1
      have k3 := blkv HBR.out c2
      have k4 := blkv HBR.out c3
      obtain ⟨s, hs⟩ : ∃ s, s = sameV u.v x.v := ⟨_, rfl⟩
      have HC := Lib.hid (HU.out x wr (List.mem_of_getElem? hks) HBR.out)
      rw [← hs] at HC
      have HS := Lib.hid hs
      have HKS := Lib.hid (show p.v[k]? = some x.v by rw [LA.v, List.getElem?_map, hks]; rfl)
      rw [hla]
      clear c0 c1 c2 c3 hla hks hs hp0
      cases s with
      | true =>
        go_wp2_with (go_at_call 41; (with_reducible refine HC.out.mono ?_); rintro e w5 ⟨rfl, h5⟩)
        refine bodyPost_ret (v := .int .i64 (k : Int)) (by simp [results, Tryz.results59, go_sem]) rfl ⟨(k : Int), rfl, ?_, below_via HBR.out h5⟩
        rw [hasV_yes HKS.out HS.out.symm]
        simp
      | false =>
        go_wp2_with (go_at_call 41; (with_reducible refine HC.out.mono ?_); rintro e w5 ⟨rfl, h5⟩)
        exact ⟨⟨k + 1, by omega, by go_num, Lib.hid (below_via HBR.out h5), Lib.hid (fun j y hj hy => by
          by_cases hjk : j < k
          · exact HNO.out j y hjk hy
          · obtain rfl : j = k := by omega
            rw [HKS.out] at hy
            injection hy with hy
            subst hy
            exact HS.out.symm)⟩, by simp [intOf]; omega⟩
    · have hkl : k = p.l.length := by omega
      subst hkl
      have hge : ¬ (p.l.length : Int) < (p.l.length : Int) := by omega
      go_wp2_with fail
      refine bodyPost_ret (v := .int .i64 (-1)) (by simp [results, Tryz.results59, go_sem]) rfl ⟨-1, rfl, ?_, HBR.out⟩
      rw [hasV_no fun j y hy => HNO.out j y (by have := (List.getElem?_eq_some_iff.1 hy).1; rwa [LA.v, List.length_map] at this) hy]
      rfl
set_option maxRecDepth 100000 in
theorem conf_rest (w : World) (n : Nat) (u : AV) (p : LA) (hu : Rd w u) (wu : u.w ≤ 1048576) (hb : BoxV w n u) (hp : p.Rw w) :
    Calls Tryz.prog 40 #[.slice p.a p.l.length p.c, .func (.func 41) #[] #[.pointer (some ⟨n, 0, none⟩)]] w (Ret (.bool (hasV u.v p.v)) w) := by
  have HS := Lib.hid (idxf_rest w n u p hu wu hb hp)
  clear hp hu hb
  go_enter Tryz.func40, Tryz.ntmps40
  go_wp2_with (go_at_call 59; (with_reducible refine HS.out.mono ?_); rintro e w2 ⟨i, rfl, hi, h⟩)
  go_ret
  exact ⟨by rw [← hi]; rfl, h⟩
set_option maxRecDepth 100000 in
set_option maxHeartbeats 6400000 in
theorem prest_c (w : World) (p q : LA) (hp : p.Rw w) (hq : q.Rd w) :
    Calls Tryz.prog 19 #[.slice p.a p.l.length p.c, .slice q.a q.l.length q.c] w (RestPost (restN p.v q.v q.l.length) w) := by
  have HP := Lib.hid (show ∀ W, Below w.heap.size w W → p.Rw W from fun W h => hp.up h)
  have HQ := Lib.hid (show ∀ W, Below w.heap.size w W → q.Rd W from fun W h => hq.up h)
  have HQ0 := Lib.hid hq
  have hql := hq.len
  clear hp hq
  go_enter Tryz.func19, Tryz.ntmps19
  go_wp2_with fail
  go_loopw [4, 9] (fun s4 s9 wr => ∃ (k : Nat) (a : Option Addr) (c : Nat), k ≤ q.l.length ∧ s9 = .int .i64 (k : Int) ∧ s4 = .slice a (restN p.v q.v k).length c ∧ Hid (wr.ownsRow w.heap.size 3 1 (.slice a (restN p.v q.v k).length c) (restN p.v q.v k).length ((restN p.v q.v k).flatMap natE)) ∧ Hid (Below w.heap.size w wr)) (fun _ s9 _ => q.l.length - (intOf s9).toNat)
  case atStart => exact ⟨0, none, 0, Nat.zero_le _, rfl, rfl, Lib.hid (World.ownsRow_nil _ _ _ _), Lib.hid (Below.refl _ _)⟩
  case round =>
    obtain ⟨k, a, c, hk, rfl, rfl, HO, HBR⟩ := hrel
    have hrl := restN_len p.v q.v k
    by_cases hlt : k < q.l.length
    · have hks : q.l[k]? = some q.l[k] := List.getElem?_eq_getElem hlt
      generalize q.l[k] = u at *
      have hlt' : (k : Int) < (q.l.length : Int) := by omega
      have hk0 : (0 : Int) ≤ (k : Int) := by omega
      have hp0 := HQ0.out.sl
      obtain ⟨b, off, hla, -, -, -, c0, c1, c2, c3⟩ := vals_at hp0 hks
      have hba : ∀ o, Below wr.heap.size wr (wr.alloc o) := fun o => below_al (Below.refl _ _)
      have k1 := blkv HBR.out c0
      have k2 := blkv HBR.out c1
      have k3 := blkv HBR.out c2
      have k4 := blkv HBR.out c3
      have m1 := fun o => blkv (below_via HBR.out (hba o)) c0
      have m2 := fun o => blkv (below_via HBR.out (hba o)) c1
      have m3 := fun o => blkv (below_via HBR.out (hba o)) c2
      have m4 := fun o => blkv (below_via HBR.out (hba o)) c3
      obtain ⟨ru, wu⟩ := (HQ.out wr HBR.out).kids u (List.mem_of_getElem? hks)
      obtain ⟨s, hs⟩ : ∃ s, s = hasV u.v p.v := ⟨_, rfl⟩
      have HC := Lib.hid (show ∀ W, Below wr.heap.size wr W → BoxV W wr.heap.size u → Calls Tryz.prog 40 #[.slice p.a p.l.length p.c, .func (.func 41) #[] #[.pointer (some ⟨wr.heap.size, 0, none⟩)]] W (Ret (.bool s) W) from fun W h hB => by rw [hs]; exact conf_rest W wr.heap.size u p (ru.up h) wu hB (HP.out W (below_via HBR.out h)))
      have HKS := Lib.hid (show q.v[k]? = some u.v by rw [LA.v, List.getElem?_map, hks]; rfl)
      have HS := Lib.hid hs
      rw [hla]
      clear c0 c1 c2 c3 hla hks hs hp0 ru
      cases s with
      | true =>
        go_wp2_with (go_at_call 40; (with_reducible refine (HC.out _ (hba _) (BoxV.new _ _ _)).mono ?_); rintro e w5 ⟨rfl, h5⟩)
        have hb5 := below_via (hba _) h5
        exact ⟨⟨k + 1, a, c, by omega, by go_num, by rw [restN_no HKS.out HS.out.symm], Lib.hid (by rw [restN_no HKS.out HS.out.symm]; exact own_below HO.out hb5), Lib.hid (below_via HBR.out hb5)⟩, by simp [intOf]; omega⟩
      | false =>
        go_wp2_with (first
          | (at_builtin; refine wl_append (s := .tmp 18) (x := .tmp 20) rfl rfl (hrun _) ?_; clear hrun)
          | (go_at_call 40; (with_reducible refine (HC.out _ (hba _) (BoxV.new _ _ _)).mono ?_); rintro e w5 ⟨rfl, h5⟩
             have hb5 := below_via (hba _) h5
             have hlit : SlE natE 1 (w5.alloc (.cells #[.int .i64 (k : Int)] 3)) w5.heap.size (w5.heap.size + 1) (some ⟨w5.heap.size, 0, none⟩) [k] := lit_sl (enc := natE) (size := 1) (l := [k]) (t := 3) (fr := (0, 0)) (fun _ => rfl) (heap_alloc_new _ _)
             have hz5 := (below_via HBR.out hb5).size
             obtain ⟨v', W', hrun, hown', hgr, hat⟩ := app_in (c := 1) (own_below (own_below HO.out hb5) ((Below.refl _ _).alloc (Nat.le_refl _) (.cells #[.int .i64 (k : Int)] 3))) hlit (by simp; omega) (by simp; omega)
             rw [← restN_yes HKS.out HS.out.symm] at hown'
             obtain ⟨a', c', rfl⟩ := own_formI hown'
             have HB5 := Lib.hid (below_via HBR.out hb5)
             have HOW' := Lib.hid hown'
             have HGR := Lib.hid hgr
             clear hown' hlit hb5 h5 hgr hz5 hat))
        have hb5 := HB5.out
        have hz5 := hb5.size
        exact ⟨⟨k + 1, a', c', by omega, by go_num, rfl, HOW', Lib.hid ((hb5.trans ((Below.refl _ _).alloc hz5 _)).grown HGR.out (by simp; omega) (fun q hq => (HO.out.lt q hq).1))⟩, by simp [intOf]; omega⟩
    · have hkl : k = q.l.length := by omega
      subst hkl
      have hge : ¬ (q.l.length : Int) < (q.l.length : Int) := by omega
      have hcap : (restN p.v q.v q.l.length).length ≤ c := by
        rcases HO.out.2 with ⟨e1, h0⟩ | ⟨g', c', cur, e1, hb, hh, hc1, _⟩
        · injection e1 with _ _ e1; omega
        · injection e1 with e0 _ e1; omega
      go_wp2_with (go_at_call 42; refine (clip_in _ _ _ _ hcap).mono ?_; rintro e w6 ⟨rfl, rfl⟩)
      exact bodyPost_ret (v := .slice a (restN p.v q.v q.l.length).length (restN p.v q.v q.l.length).length) (by simp [results, Tryz.results19, go_sem]) rfl ⟨a, rfl, own_sl (enc := natE) (size := 1) (fun _ => rfl) HO.out, HBR.out⟩
end Go.Proofs.YtmhkacafilpliaaGreat
