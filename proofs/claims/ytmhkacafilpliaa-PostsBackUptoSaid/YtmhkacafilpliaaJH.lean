/-
  posts.Of: its contract at whatever value. Conditions: the tree lies in memory, its weight is bounded.
-/
import Derived.Test.YtmhkacafilpliaaJG
namespace Go.Proofs.Ytmhkacafilpliaa
open Go.RowKit Go.Sort Go.Shelf

/-- The postorder of a value: labels, leaves. -/
def Val.labs (v : Val) : List Lab := postF (256 + 1) ⟨false, ⟨#[]⟩, v⟩
def Val.lefts (v : Val) : List Nat := leftF (256 + 1) 0 ⟨false, ⟨#[]⟩, v⟩
theorem Val.labs_eq (v : Val) : v.labs = postF (256 + 1) ⟨false, ⟨#[]⟩, v⟩ := rfl
theorem Val.lefts_eq (v : Val) : v.lefts = leftF (256 + 1) 0 ⟨false, ⟨#[]⟩, v⟩ := rfl
attribute [irreducible] Val.labs Val.lefts

theorem gone_labs : ∀ (n : Nat) (e : PE), e.x.v.within n = true → labsG (goneP (n + 1) e) = postF (n + 1) e.plc
  | 0, e, h => by
    have hs : e.x.v.shape = true := by rw [Val.within_0, Bool.and_eq_true] at h; exact h.1
    have h1 : e.plc.v.subs = [] := subs_leaf h
    have h2 : e.x.psub = [] := List.map_eq_nil_iff.1 ((psub_plc hs).trans h1)
    rw [goneP_succ, postF_succ, h1, h2]
    show [PE.lab e] = [⟨e.kd, e.key, e.x.v.k, e.x.v.t⟩]
    rw [AV.v_k, AV.v_t]; rfl
  | n + 1, e, h => by
    have hs := (within_parts h).1
    have h1 : e.plc.v.subs = e.x.psub.map PE.plc := (psub_plc hs).symm
    rw [goneP_succ, postF_succ, h1, labsG, List.map_append, List.flatMap_map]
    have e1 : (e.x.psub.flatMap (goneP (n + 1))).map (fun x => x.1.lab) = e.x.psub.flatMap fun y => postF (n + 1) y.plc := by
      rw [List.map_flatMap]
      refine flat_same fun y hy => ?_
      have hm := psub_mem hy
      exact gone_labs n y ((within_parts h).2 y.x.v (by rw [AV.v_l]; exact List.mem_map_of_mem hm))
    rw [e1]
    congr 1
    show [PE.lab e] = [⟨e.kd, e.key, e.x.v.k, e.x.v.t⟩]
    rw [AV.v_k, AV.v_t]; rfl
/-- Leaves out of what stands below. -/
def leftG (fr : Nat) (xs : List (PE × Nat)) : List Nat := xs.zipIdx.map fun p => fr + p.2 - p.1.2
theorem leftG_append (fr : Nat) (xs ys : List (PE × Nat)) (hy : ∀ p ∈ ys.zipIdx, p.1.2 ≤ p.2) : leftG fr (xs ++ ys) = leftG fr xs ++ leftG (fr + xs.length) ys := by
  unfold leftG
  rw [List.zipIdx_append, List.map_append, Nat.zero_add]
  congr 1
  apply List.ext_getElem
  · simp
  · intro i h1 h2
    simp only [List.getElem_map, List.getElem_zipIdx, Nat.zero_add]
    simp at h1
    have := hy (ys[i], i) (by rw [List.mem_iff_getElem]; exact ⟨i, by simpa using h1, by simp⟩)
    simp only at this
    omega
theorem zipIdx_le_append {xs ys : List (PE × Nat)} (hx : ∀ p ∈ xs.zipIdx, p.1.2 ≤ p.2) (hy : ∀ p ∈ ys.zipIdx, p.1.2 ≤ p.2) : ∀ p ∈ (xs ++ ys).zipIdx, p.1.2 ≤ p.2 := by
  intro p hp
  rw [List.mem_iff_getElem] at hp
  obtain ⟨i, hi, rfl⟩ := hp
  simp only [List.length_zipIdx, List.length_append] at hi
  simp only [List.getElem_zipIdx, Nat.zero_add]
  by_cases h : i < xs.length
  · rw [List.getElem_append_left h]
    exact hx (xs[i], i) (by rw [List.mem_iff_getElem]; exact ⟨i, by simpa using h, by simp⟩)
  · rw [List.getElem_append_right (by omega)]
    have := hy (ys[i - xs.length]'(by omega), i - xs.length) (by rw [List.mem_iff_getElem]; exact ⟨i - xs.length, by simp; omega, by simp⟩)
    simp only at this
    omega
theorem zipIdx_le_flat {α : Type} {f : α → List (PE × Nat)} : ∀ {l : List α}, (∀ x ∈ l, ∀ p ∈ (f x).zipIdx, p.1.2 ≤ p.2) → ∀ p ∈ (l.flatMap f).zipIdx, p.1.2 ≤ p.2
  | [], _ => by simp
  | x :: l, h => by
    rw [List.flatMap_cons]
    exact zipIdx_le_append (h x List.mem_cons_self) (zipIdx_le_flat fun y hy => h y (List.mem_cons_of_mem _ hy))
theorem gone_le : ∀ (n : Nat) (e : PE), ∀ p ∈ (goneP n e).zipIdx, p.1.2 ≤ p.2
  | 0, _ => by simp [goneP]
  | n + 1, e => by
    rw [goneP_succ]
    intro p hp
    rw [List.zipIdx_append, List.mem_append] at hp
    rcases hp with hp | hp
    · exact zipIdx_le_flat (fun x _ => gone_le n x) p hp
    · simp at hp
      subst hp
      simp
theorem gone_left : ∀ (n fr : Nat) (e : PE), e.x.v.within n = true → leftG fr (goneP (n + 1) e) = leftF (n + 1) fr e.plc
  | n, fr, e, h => by
    have hs : e.x.v.shape = true := by
      cases n with
      | zero => rw [Val.within_0, Bool.and_eq_true] at h; exact h.1
      | succ n => exact (within_parts h).1
    have h1 : e.plc.v.subs = e.x.psub.map PE.plc := (psub_plc hs).symm
    have hkid : ∀ (xs : List PE), (∀ y ∈ xs, ∀ fr, leftG fr (goneP n y) = leftF n fr y.plc) → ∀ L, leftsF n fr L (xs.map PE.plc) = L ++ leftG (fr + L.length) (xs.flatMap (goneP n)) := by
      intro xs
      induction xs with
      | nil => intro _ L; simp [leftsF, leftG]
      | cons y ys ih =>
        intro hy L
        rw [List.map_cons, leftsF_cons, ih (fun z hz => hy z (List.mem_cons_of_mem _ hz)), List.flatMap_cons, leftG_append _ _ _ (zipIdx_le_flat fun z _ => gone_le n z), ← hy y List.mem_cons_self, List.length_append, List.append_assoc]
        congr 3
        simp [leftG]; omega
    have hk : ∀ y ∈ e.x.psub, ∀ fr, leftG fr (goneP n y) = leftF n fr y.plc := fun y hy fr => by
      cases n with
      | zero =>
        have h2 : e.plc.v.subs = [] := subs_leaf h
        rw [h1] at h2
        rw [List.map_eq_nil_iff.1 h2] at hy
        cases hy
      | succ n => exact gone_left n fr y ((within_parts h).2 y.x.v (by rw [AV.v_l]; exact List.mem_map_of_mem (psub_mem hy)))
    rw [goneP_succ, leftF_succ, h1, hkid _ hk, List.nil_append, List.length_nil, Nat.add_zero]
    unfold leftG
    rw [List.zipIdx_append, List.map_append, Nat.zero_add]
    simp
theorem left_ints {n : Nat} {e : PE} (h : e.x.v.within n = true) (hb : (goneP (n + 1) e).length ≤ 1048576) : leftZ (goneP (n + 1) e) = (leftF (n + 1) 0 e.plc).map fun l : Nat => (l : Int) := by
  rw [← gone_left n 0 e h]
  unfold leftZ leftG
  rw [List.map_map]
  refine List.map_congr_left fun p hp => ?_
  have h1 := gone_le _ _ p hp
  have h2 : p.2 < (goneP (n + 1) e).length := by
    obtain ⟨i, hi, rfl⟩ := List.mem_iff_getElem.1 hp
    simp at hi ⊢; exact hi
  show IntKind.i64.wrap ((p.2 : Int) - (p.1.2 : Nat)) = ((0 + p.2 - p.1.2 : Nat) : Int)
  rw [IntWalk.i64_in _ (by omega)]
  omega
theorem left_bound (n : Nat) (e : Plc) : ∀ i l : Nat, (leftF n 0 e)[i]? = some l → l < (leftF n 0 e).length := fun i l h => by
  have h1 := left_in n 0 e i l h
  have h2 := (List.getElem?_eq_some_iff.1 h).1
  omega

/-- What posts.Of leaves. -/
def POfPost (v : Val) (w : World) (e : Ending) (w' : World) : Prop :=
  ∃ al af ar n r, e = .returned (.tuple #[.agg #[.slice al n n, .slice af n n, .slice ar r r], .bool v.may]) ∧ n = (if v.may then v.labs.length else 0) ∧ r = (if v.may then (rootsL v.lefts).length else 0) ∧
    (v.may = true → OwnC w' w.heap.size 46 4 al n n (v.labs.flatMap Lab.enc) ∧ OwnC w' w.heap.size 3 1 af n n (v.lefts.flatMap natE) ∧ OwnC w' w.heap.size 3 1 ar r r ((rootsL v.lefts).flatMap natE)) ∧
    (v.may = false → al = none ∧ af = none ∧ ar = none) ∧ Below w.heap.size w w'
theorem labs_len (v : Val) (h : v.may = true) : v.labs.length = v.size := by
  rw [Val.labs_eq]
  exact post_size 256 ⟨false, ⟨#[]⟩, v⟩ (by rw [Val.may_eq]; exact h)
theorem lefts_len (v : Val) : v.lefts.length = v.labs.length := by
  rw [Val.labs_eq, Val.lefts_eq, left_len]
set_option maxRecDepth 100000 in
set_option maxHeartbeats 3200000 in
theorem of_no (w : World) (x : AV) (hx : Rd w x) (hw : x.w ≤ 1048576) (hm : x.v.may = false) : Calls Try.prog 15 #[x.val] w (POfPost x.v w) := by
  have hb0 := fun o => (Below.refl w.heap.size w).alloc (Nat.le_refl _) o
  have HM := fun W h => Lib.hid (may_c W x h hw)
  rw [hm] at HM
  have HMM := Lib.hid hm
  clear hm
  go_enter Try.func15, Try.ntmps15
  go_wp2_with (go_at_call 30; refine (HM _ (hx.up ((hb0 _).alloc (by simp) _))).out.mono ?_; rintro e w2 ⟨rfl, hb⟩; obtain ⟨hbx, hbp, hsz, hbw⟩ := two_at hb; obtain ⟨q0, q1, q2, q3, -, -, -, -⟩ := vbox4 hbx; have hp0 : w2.cell? ⟨w.heap.size + 1, 0, none⟩ = some (.slice none 0 0) := (by simp [World.cell?, hbp]); have hp1 : w2.cell? ⟨w.heap.size + 1, 1, none⟩ = some (.slice none 0 0) := (by simp [World.cell?, hbp]); have hp2 : w2.cell? ⟨w.heap.size + 1, 2, none⟩ = some (.slice none 0 0) := (by simp [World.cell?, hbp]); have hf0 : w2.frozen? ⟨w.heap.size + 1, 0, none⟩ = false := (by simp [World.frozen?, hbp]); have hf1 : w2.frozen? ⟨w.heap.size + 1, 1, none⟩ = false := (by simp [World.frozen?, hbp]); have hf2 : w2.frozen? ⟨w.heap.size + 1, 2, none⟩ = false := (by simp [World.frozen?, hbp]))
  refine bodyPost_ret (v := .tuple #[.agg #[.slice none 0 0, .slice none 0 0, .slice none 0 0], .bool false]) (by simp [results, Try.results15, go_sem, hp0, hp1, hp2]) rfl ?_
  unfold POfPost
  rw [HMM.out]
  exact ⟨none, none, none, 0, 0, rfl, rfl, rfl, fun h => absurd h (by simp), fun _ => ⟨rfl, rfl, rfl⟩, ((hbw.setCell (p := ⟨w.heap.size + 1, 0, none⟩) (by show w.heap.size ≤ w.heap.size + 1; omega) _).setCell (p := ⟨w.heap.size + 1, 1, none⟩) (by show w.heap.size ≤ w.heap.size + 1; omega) _).setCell (p := ⟨w.heap.size + 1, 2, none⟩) (by show w.heap.size ≤ w.heap.size + 1; omega) _⟩
theorem pof_c (w : World) (x : AV) (hx : Rd w x) (hw : x.w ≤ 1048576) : Calls Try.prog 15 #[x.val] w (POfPost x.v w) := by
  cases hm : x.v.may with
  | false => exact of_no w x hx hw hm
  | true =>
    have hwi : x.v.within 256 = true := by rw [Val.may_eq]; exact hm
    have hlb := gone_labs 256 ⟨false, ⟨#[]⟩, x⟩ hwi
    have hl0 : (goneP (256 + 1) ⟨false, ⟨#[]⟩, x⟩).length = x.v.labs.length := by
      rw [Val.labs_eq, show (⟨false, ⟨#[]⟩, x.v⟩ : Plc) = PE.plc ⟨false, ⟨#[]⟩, x⟩ from rfl, ← hlb, labsG, List.length_map]
    have hsz := x.v.size_le
    have hln : (goneP (256 + 1) ⟨false, ⟨#[]⟩, x⟩).length ≤ 1048576 := by
      rw [hl0, labs_len _ hm]
      exact Nat.le_trans hsz hw
    have hLZ : leftZ (goneP (256 + 1) ⟨false, ⟨#[]⟩, x⟩) = x.v.lefts.map fun l : Nat => (l : Int) := by
      rw [Val.lefts_eq]; exact left_ints hwi hln
    have hLl : x.v.lefts.length = (goneP (256 + 1) ⟨false, ⟨#[]⟩, x⟩).length := by rw [hl0, lefts_len]
    have hLb : ∀ i l : Nat, x.v.lefts[i]? = some l → l < x.v.lefts.length := by
      rw [Val.lefts_eq]; exact left_bound _ _
    refine (of_yes w x 256 hx hw hm hwi hln x.v.lefts hLZ hLl hLb).mono ?_
    rintro e w' ⟨al, af, ar, rfl, h1, h2, h3, h4⟩
    refine ⟨al, af, ar, _, _, by rw [hm], by rw [hm, if_pos rfl, hl0], by rw [hm, if_pos rfl], fun _ => ⟨?_, h2, h3⟩, fun h => (by rw [hm] at h; cases h), h4⟩
    rw [hlb] at h1
    rw [Val.labs_eq]
    exact h1
end Go.Proofs.Ytmhkacafilpliaa
