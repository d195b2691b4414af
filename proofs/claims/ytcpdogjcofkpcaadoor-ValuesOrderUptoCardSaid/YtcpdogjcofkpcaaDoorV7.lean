/-
  slices.CompareFunc at values and at entries, cmp.Compare of kinds. Conditions: the lists read as data, with bounded lengths; the function that compares has its contract.
-/
import Derived.Test.YtcpdogjcofkpcaaDoorV6
namespace Go.Proofs.YtcpdogjcofkpcaaDoor
open Go.RowKit Go.Sort

def cmpL {α : Type} (f : α → α → Int) : List α → List α → Int
  | [], [] => 0
  | [], _ :: _ => -1
  | _ :: _, [] => 1
  | x :: l, y :: m => if f x y = 0 then cmpL f l m else f x y
section
variable {α : Type} {f : α → α → Int}
theorem cmpL_drop : ∀ (k : Nat) (l m : List α), (∀ j x y, j < k → l[j]? = some x → m[j]? = some y → f x y = 0) → k ≤ l.length → k ≤ m.length → cmpL f l m = cmpL f (l.drop k) (m.drop k)
  | 0, _, _, _, _, _ => rfl
  | k + 1, [], _, _, h1, _ => by simp at h1
  | k + 1, _ :: _, [], _, _, h2 => by simp at h2
  | k + 1, x :: l, y :: m, h, h1, h2 => by
    have h0 := h 0 x y (by omega) rfl rfl
    simp only [cmpL, h0, if_true, List.drop_succ_cons]
    exact cmpL_drop k l m (fun j a b hj ha hb => h (j + 1) a b (by omega) (by simpa using ha) (by simpa using hb)) (by simpa using h1) (by simpa using h2)
theorem cmpL_at {l m : List α} {k : Nat} {x y : α} (h : ∀ j x y, j < k → l[j]? = some x → m[j]? = some y → f x y = 0) (hx : l[k]? = some x) (hy : m[k]? = some y) (hne : f x y ≠ 0) : cmpL f l m = f x y := by
  obtain ⟨h1, rfl⟩ := (List.getElem?_eq_some_iff.1 hx)
  obtain ⟨h2, rfl⟩ := (List.getElem?_eq_some_iff.1 hy)
  rw [cmpL_drop k l m h (by omega) (by omega), List.drop_eq_getElem_cons h1, List.drop_eq_getElem_cons h2]
  simp [cmpL, hne]
end

/-- An element of a list of entries, by its cells. -/
theorem ents_at {w : World} {lo hi : Nat} {a : Option Addr} {l : List Ent} (h : SlE Ent.enc 5 w lo hi a l) {k : Nat} {y : Ent} (hk : l[k]? = some y) :
    ∃ b off, a = some ⟨b, off, none⟩ ∧ lo ≤ b ∧ b < hi ∧ b < w.heap.size ∧ w.cell? ⟨b, off + k * 5, none⟩ = some (.string y.key) ∧ w.cell? ⟨b, off + k * 5 + 1, none⟩ = some (.int .u8 y.x.k) ∧ w.cell? ⟨b, off + k * 5 + 2, none⟩ = some (.string y.x.t) ∧
      w.cell? ⟨b, off + k * 5 + 3, none⟩ = some (.slice y.x.la y.x.l.length y.x.lc) ∧ w.cell? ⟨b, off + k * 5 + 4, none⟩ = some (.slice y.x.ka y.x.ks.length y.x.kc) := by
  have hl : k < l.length := (List.getElem?_eq_some_iff.1 hk).1
  obtain ⟨b, off, e, g1, g2, g3, g4⟩ := h (by omega)
  have c := g4 k y hk
  exact ⟨b, off, e, g1, g2, g3, by simpa using c 0 _ rfl, c 1 _ rfl, c 2 _ rfl, c 3 _ rfl, c 4 _ rfl⟩

theorem nan_kd (w : World) (x : Int) : Calls Tryd.prog 62 #[.int .u8 x] w fun e w' => e = .returned (.bool false) ∧ w = w' := by
  have h : (x != x) = false := by simp
  go_enter Tryd.func62, Tryd.ntmps62
  go_wp2_with fail
  go_ret
  exact ⟨rfl, rfl⟩
theorem cmp_kd (w : World) (x y : Int) : Calls Tryd.prog 42 #[.int .u8 x, .int .u8 y] w fun e w' => e = .returned (.int .i64 (cmpInt x y)) ∧ w = w' := by
  by_cases h1 : x < y
  · rw [show cmpInt x y = -1 by simp [cmpInt, h1]]
    go_enter Tryd.func42, Tryd.ntmps42
    go_wp2_with (go_at_call 62; refine (nan_kd _ _).mono ?_; rintro e w1 ⟨rfl, rfl⟩)
    go_ret
    exact ⟨rfl, rfl⟩
  · by_cases h2 : y < x
    · rw [show cmpInt x y = 1 by simp [cmpInt, h1, h2]]
      go_enter Tryd.func42, Tryd.ntmps42
      go_wp2_with (go_at_call 62; refine (nan_kd _ _).mono ?_; rintro e w1 ⟨rfl, rfl⟩)
      go_ret
      exact ⟨rfl, rfl⟩
    · rw [show cmpInt x y = 0 by simp [cmpInt, h1, h2]]
      go_enter Tryd.func42, Tryd.ntmps42
      go_wp2_with (go_at_call 62; refine (nan_kd _ _).mono ?_; rintro e w1 ⟨rfl, rfl⟩)
      go_ret
      exact ⟨rfl, rfl⟩

set_option maxRecDepth 100000 in
set_option maxHeartbeats 3200000 in
theorem cmpf_v (w : World) (a a' : Option Addr) (cap cap' : Nat) (l l' : List AV) (h : SlE AV.enc 4 w 0 w.heap.size a l) (h' : SlE AV.enc 4 w 0 w.heap.size a' l') (hl : l.length ≤ 1048576) (_hl' : l'.length ≤ 1048576) (f : AV → AV → Int)
    (hf : ∀ x y W, x ∈ l → y ∈ l' → Below w.heap.size w W → Calls Tryd.prog 24 #[x.val, y.val] W (Ret (.int .i64 (f x y)) W)) :
    Calls Tryd.prog 44 #[.slice a l.length cap, .slice a' l'.length cap', .func (.func 24) #[] #[]] w (Ret (.int .i64 (cmpL f l l')) w) := by
  have HF := fun x y W h1 h2 h3 => Lib.hid (hf x y W h1 h2 h3)
  clear hf
  go_enter Tryd.func44, Tryd.ntmps44
  go_wp2_with fail
  go_loopw [6, 7, 8, 9, 10, 13] (fun q _ _ _ _ i wr => q = .int .i64 0 ∧ ∃ k : Nat, k ≤ l.length ∧ k ≤ l'.length ∧ i = .int .i64 k ∧ (∀ j x y, j < k → l[j]? = some x → l'[j]? = some y → f x y = 0) ∧ Below w.heap.size w wr) (fun _ _ _ _ _ i _ => l.length - (intOf i).toNat)
  case atStart => exact ⟨rfl, 0, Nat.zero_le _, Nat.zero_le _, rfl, fun j x y hj => absurd hj (by omega), Below.refl _ _⟩
  case round =>
    obtain ⟨rfl, k, hk, hk', rfl, hz, hbw⟩ := hrel
    have hsz := hbw.size
    have HZ := Lib.hid hz
    clear hz
    by_cases hlt : k < l.length
    · have hks : l[k]? = some l[k] := List.getElem?_eq_getElem hlt
      have hm : l[k] ∈ l := List.getElem_mem hlt
      generalize l[k] = s at *
      obtain ⟨b, off, rfl, -, hb1, hb2, h0, h1, h2, h3⟩ := vals_at h hks
      rw [← hbw.cell (p := ⟨_, _, none⟩) hb2] at h0 h1 h2 h3
      have hbb : b < wr.heap.size := Nat.lt_of_lt_of_le hb2 hbw.size
      have hlt' : (k : Int) < (l.length : Int) := by omega
      have HK := Lib.hid hks
      clear h hks
      by_cases hlt2 : k < l'.length
      · have hks' : l'[k]? = some l'[k] := List.getElem?_eq_getElem hlt2
        have hm' : l'[k] ∈ l' := List.getElem_mem hlt2
        generalize l'[k] = s' at *
        obtain ⟨b', off', rfl, -, hb1', hb2', h0', h1', h2', h3'⟩ := vals_at h' hks'
        rw [← hbw.cell (p := ⟨_, _, none⟩) hb2'] at h0' h1' h2' h3'
        have hbb' : b' < wr.heap.size := Nat.lt_of_lt_of_le hb2' hbw.size
        have hlt2' : (k : Int) < (l'.length : Int) := by omega
        have HK' := Lib.hid hks'
        clear h' hks'
        have hcl := fun W h => HF s s' W hm hm' h
        clear HF
        generalize hfv : f s s' = fv at *
        have HV := Lib.hid hfv
        clear hfv
        go_wp2_with (go_at_call 24; refine (hcl _ (by repeat (first | exact hbw | refine Below.drew ?_ | refine Below.setCell ?_ (by first | omega | (simp; done) | (simp; omega)) _ | refine Below.alloc ?_ (by first | omega | (simp; done) | (simp; omega)) _))).out.mono ?_; rintro e w2 ⟨rfl, hb⟩)
        · have hne : fv ≠ 0 := by have := ‹(fv != 0) = true›; simpa using this
          go_ret
          exact ⟨by rw [cmpL_at HZ.out HK.out HK'.out (by rw [HV.out]; exact hne), HV.out]; rfl, below_via (w := w) (by repeat (first | exact hbw | exact Below.refl _ _ | refine Below.drew ?_ | refine Below.setCell ?_ (by first | omega | (simp; done) | (simp; omega)) _ | refine Below.alloc ?_ (by first | omega | (simp; done) | (simp; omega)) _)) hb⟩
        · have hz0 : fv = 0 := by have := ‹(fv != 0) = false›; simpa using this
          refine ⟨⟨rfl, k + 1, by omega, by omega, by go_num, fun j x y hj hx hy => ?_, below_via (w := w) (by repeat (first | exact hbw | exact Below.refl _ _ | refine Below.drew ?_ | refine Below.setCell ?_ (by first | omega | (simp; done) | (simp; omega)) _ | refine Below.alloc ?_ (by first | omega | (simp; done) | (simp; omega)) _)) hb⟩, by simp [intOf]; omega⟩
          rcases Nat.lt_or_ge j k with hj2 | hj2
          · exact HZ.out j x y hj2 hx hy
          · obtain rfl : j = k := by omega
            rw [HK.out] at hx; rw [HK'.out] at hy; injection hx with hx; injection hy with hy; rw [← hx, ← hy, HV.out]; exact hz0
      · have hfin := Lib.hid (show cmpL f l l' = 1 by rw [cmpL_drop k l l' HZ.out hk hk', List.drop_eq_nil_of_le (show l'.length ≤ k by omega), List.drop_eq_getElem_cons hlt]; rfl)
        go_wp2_with fail
        go_ret
        exact ⟨by rw [hfin.out]; rfl, (by repeat (first | exact hbw | exact Below.refl _ _ | refine Below.drew ?_ | refine Below.setCell ?_ (by first | omega | (simp; done) | (simp; omega)) _ | refine Below.alloc ?_ (by first | omega | (simp; done) | (simp; omega)) _))⟩
    · by_cases hlt2 : k < l'.length
      · have hfin := Lib.hid (show cmpL f l l' = -1 by rw [cmpL_drop k l l' HZ.out hk hk', List.drop_eq_nil_of_le (show l.length ≤ k by omega), List.drop_eq_getElem_cons hlt2]; rfl)
        go_wp2_with fail
        go_ret
        exact ⟨by rw [hfin.out]; rfl, hbw⟩
      · have hfin := Lib.hid (show cmpL f l l' = 0 by rw [cmpL_drop k l l' HZ.out hk hk', List.drop_eq_nil_of_le (show l.length ≤ k by omega), List.drop_eq_nil_of_le (show l'.length ≤ k by omega)]; rfl)
        go_wp2_with fail
        go_ret
        exact ⟨by rw [hfin.out]; rfl, hbw⟩

set_option maxRecDepth 100000 in
set_option maxHeartbeats 3200000 in
theorem cmpf_e (w : World) (a a' : Option Addr) (cap cap' : Nat) (l l' : List Ent) (h : SlE Ent.enc 5 w 0 w.heap.size a l) (h' : SlE Ent.enc 5 w 0 w.heap.size a' l') (hl : l.length ≤ 1048576) (_hl' : l'.length ≤ 1048576) (f : Ent → Ent → Int)
    (hf : ∀ x y W, x ∈ l → y ∈ l' → Below w.heap.size w W → Calls Tryd.prog 47 #[x.val, y.val] W (Ret (.int .i64 (f x y)) W)) :
    Calls Tryd.prog 45 #[.slice a l.length cap, .slice a' l'.length cap', .func (.func 47) #[] #[]] w (Ret (.int .i64 (cmpL f l l')) w) := by
  have HF := fun x y W h1 h2 h3 => Lib.hid (hf x y W h1 h2 h3)
  clear hf
  go_enter Tryd.func45, Tryd.ntmps45
  go_wp2_with fail
  go_loopw [6, 7, 8, 9, 10, 13] (fun q _ _ _ _ i wr => q = .int .i64 0 ∧ ∃ k : Nat, k ≤ l.length ∧ k ≤ l'.length ∧ i = .int .i64 k ∧ (∀ j x y, j < k → l[j]? = some x → l'[j]? = some y → f x y = 0) ∧ Below w.heap.size w wr) (fun _ _ _ _ _ i _ => l.length - (intOf i).toNat)
  case atStart => exact ⟨rfl, 0, Nat.zero_le _, Nat.zero_le _, rfl, fun j x y hj => absurd hj (by omega), Below.refl _ _⟩
  case round =>
    obtain ⟨rfl, k, hk, hk', rfl, hz, hbw⟩ := hrel
    have hsz := hbw.size
    have HZ := Lib.hid hz
    clear hz
    by_cases hlt : k < l.length
    · have hks : l[k]? = some l[k] := List.getElem?_eq_getElem hlt
      have hm : l[k] ∈ l := List.getElem_mem hlt
      generalize l[k] = s at *
      obtain ⟨b, off, rfl, -, hb1, hb2, h0, h1, h2, h3, h4⟩ := ents_at h hks
      rw [← hbw.cell (p := ⟨_, _, none⟩) hb2] at h0 h1 h2 h3 h4
      have hbb : b < wr.heap.size := Nat.lt_of_lt_of_le hb2 hbw.size
      have hlt' : (k : Int) < (l.length : Int) := by omega
      have HK := Lib.hid hks
      clear h hks
      by_cases hlt2 : k < l'.length
      · have hks' : l'[k]? = some l'[k] := List.getElem?_eq_getElem hlt2
        have hm' : l'[k] ∈ l' := List.getElem_mem hlt2
        generalize l'[k] = s' at *
        obtain ⟨b', off', rfl, -, hb1', hb2', h0', h1', h2', h3', h4'⟩ := ents_at h' hks'
        rw [← hbw.cell (p := ⟨_, _, none⟩) hb2'] at h0' h1' h2' h3' h4'
        have hbb' : b' < wr.heap.size := Nat.lt_of_lt_of_le hb2' hbw.size
        have hlt2' : (k : Int) < (l'.length : Int) := by omega
        have HK' := Lib.hid hks'
        clear h' hks'
        have hcl := fun W h => HF s s' W hm hm' h
        clear HF
        generalize hfv : f s s' = fv at *
        have HV := Lib.hid hfv
        clear hfv
        go_wp2_with (go_at_call 47; refine (hcl _ (by repeat (first | exact hbw | refine Below.drew ?_ | refine Below.setCell ?_ (by first | omega | (simp; done) | (simp; omega)) _ | refine Below.alloc ?_ (by first | omega | (simp; done) | (simp; omega)) _))).out.mono ?_; rintro e w2 ⟨rfl, hb⟩)
        · have hne : fv ≠ 0 := by have := ‹(fv != 0) = true›; simpa using this
          go_ret
          exact ⟨by rw [cmpL_at HZ.out HK.out HK'.out (by rw [HV.out]; exact hne), HV.out]; rfl, below_via (w := w) (by repeat (first | exact hbw | exact Below.refl _ _ | refine Below.drew ?_ | refine Below.setCell ?_ (by first | omega | (simp; done) | (simp; omega)) _ | refine Below.alloc ?_ (by first | omega | (simp; done) | (simp; omega)) _)) hb⟩
        · have hz0 : fv = 0 := by have := ‹(fv != 0) = false›; simpa using this
          refine ⟨⟨rfl, k + 1, by omega, by omega, by go_num, fun j x y hj hx hy => ?_, below_via (w := w) (by repeat (first | exact hbw | exact Below.refl _ _ | refine Below.drew ?_ | refine Below.setCell ?_ (by first | omega | (simp; done) | (simp; omega)) _ | refine Below.alloc ?_ (by first | omega | (simp; done) | (simp; omega)) _)) hb⟩, by simp [intOf]; omega⟩
          rcases Nat.lt_or_ge j k with hj2 | hj2
          · exact HZ.out j x y hj2 hx hy
          · obtain rfl : j = k := by omega
            rw [HK.out] at hx; rw [HK'.out] at hy; injection hx with hx; injection hy with hy; rw [← hx, ← hy, HV.out]; exact hz0
      · have hfin := Lib.hid (show cmpL f l l' = 1 by rw [cmpL_drop k l l' HZ.out hk hk', List.drop_eq_nil_of_le (show l'.length ≤ k by omega), List.drop_eq_getElem_cons hlt]; rfl)
        go_wp2_with fail
        go_ret
        exact ⟨by rw [hfin.out]; rfl, (by repeat (first | exact hbw | exact Below.refl _ _ | refine Below.drew ?_ | refine Below.setCell ?_ (by first | omega | (simp; done) | (simp; omega)) _ | refine Below.alloc ?_ (by first | omega | (simp; done) | (simp; omega)) _))⟩
    · by_cases hlt2 : k < l'.length
      · have hfin := Lib.hid (show cmpL f l l' = -1 by rw [cmpL_drop k l l' HZ.out hk hk', List.drop_eq_nil_of_le (show l.length ≤ k by omega), List.drop_eq_getElem_cons hlt2]; rfl)
        go_wp2_with fail
        go_ret
        exact ⟨by rw [hfin.out]; rfl, hbw⟩
      · have hfin := Lib.hid (show cmpL f l l' = 0 by rw [cmpL_drop k l l' HZ.out hk hk', List.drop_eq_nil_of_le (show l.length ≤ k by omega), List.drop_eq_nil_of_le (show l'.length ≤ k by omega)]; rfl)
        go_wp2_with fail
        go_ret
        exact ⟨by rw [hfin.out]; rfl, hbw⟩
end Go.Proofs.YtcpdogjcofkpcaaDoor
