/-
  paths.own, step and Walk: as plain functions. Conditions: the tree and the steps lie in memory, their weights are bounded; the table of short escapes holds what its initialiser lays.
  paths.step and Walk: as plain functions. Conditions: the tree and the steps lie in memory, their weights are bounded; the table of short escapes holds what its initialiser lays.
-/
import Derived.Test.YtjihepdjcbpgoaaGreatDoorVS
import Derived.Test.YtjihepdjcbpgoaaGreatDoorVU
import Derived.Test.YtjihepdjcbpgoaaGreatDoorVN
import Derived.Test.YtjihepdjcbpgoaaGreatDoorNK
import Derived.Test.YtjihepdjcbpgoaaGreatDoorRB
import Derived.Test.YtjihepdjcbpgoaaGreatDoorVJ
import Derived.Test.YtjihepdjcbpgoaaGreatDoorP10
import Derived.Test.YtjihepdjcbpgoaaGreatDoorSO
namespace Go.Proofs.YtjihepdjcbpgoaaGreatDoor
open Go.RowKit Go.Sort
/-- Is an element of a name? -/
def named1 (s : St) (v : Val) : Bool := match v.get s.t with | some y => decide ((⟨(textR y).toArray⟩ : ByteArray) = s.i) | none => false
/-- A step from a value on. -/
def Val.stp (v : Val) (s : St) : Option Val := if s.k = 0 then v.get s.t else if v.k = 7 then (if s.k = 1 then v.l[s.a.toNat]? else v.l.find? (named1 s)) else none
/-- Steps, one behind the other. -/
def walkL (v : Val) : List St → Option Val
  | [] => some v
  | s :: l => (v.stp s).bind fun u => walkL u l
theorem walkL_app (l m : List St) : ∀ v : Val, walkL v (l ++ m) = (walkL v l).bind fun u => walkL u m := by
  induction l with
  | nil => intro v; rfl
  | cons s l ih =>
    intro v
    simp only [List.cons_append, walkL]
    cases v.stp s with
    | none => rfl
    | some u => exact ih u
theorem walkL_one (v : Val) (s : St) : walkL v [s] = v.stp s := by
  simp only [walkL]
  cases v.stp s <;> rfl
theorem stp_mem {v u : Val} {s : St} (h : v.stp s = some u) : u ∈ v.l := by
  unfold Val.stp at h
  split at h
  · exact (get_mem h).1
  · split at h
    · split at h
      · exact List.mem_of_getElem? h
      · exact List.mem_of_find?_eq_some h
    · cases h
theorem stp_may {v u : Val} {s : St} (hm : v.may = true) (h : v.stp s = some u) : u.may = true := (may_kid hm (stp_mem h)).2
theorem stp_w {v u : Val} {s : St} (h : v.stp s = some u) : u.w < v.w := Val.w_kid (stp_mem h)
/-- What a path leads to. -/
def walkV (v : Val) (p : List St) : Option Val := if mayL p && v.may then walkL v p else none

/-- Where an element is that is asked for; -1: there is none. -/
def idxF (F : AV → Bool) (l : List AV) : Int := match l.findIdx? F with | some i => ((i : Nat) : Int) | none => -1
theorem idxF_at {F : AV → Bool} {l : List AV} {k : Nat} {y : AV} (h : ∀ j x, j < k → l[j]? = some x → F x = false) (hk : l[k]? = some y) (hy : F y = true) : idxF F l = k := by
  have : l.findIdx? F = some k := by
    rw [List.findIdx?_eq_some_iff_getElem]
    obtain ⟨hl, e⟩ := List.getElem?_eq_some_iff.1 hk
    refine ⟨hl, by rw [e]; exact hy, fun j hj => ?_⟩
    have := h j l[j] hj (List.getElem?_eq_getElem (by omega))
    simp [this]
  rw [idxF, this]
theorem idxF_none {F : AV → Bool} {l : List AV} (h : ∀ (j : Nat) (x : AV), l[j]? = some x → F x = false) : idxF F l = -1 := by
  have : l.findIdx? F = none := by
    rw [List.findIdx?_eq_none_iff]
    intro x hx
    obtain ⟨j, hj⟩ := List.getElem?_of_mem hx
    exact h j x hj
  rw [idxF, this]
theorem idxF_find {s : St} {l : List AV} : (match idxF (fun y => named1 s y.v) l with | .ofNat i => (l[i]?).map AV.v | .negSucc _ => none) = (l.map AV.v).find? (named1 s) := by
  unfold idxF
  cases h : l.findIdx? fun y => named1 s y.v with
  | none =>
    have : (l.map AV.v).find? (named1 s) = none := by
      rw [List.find?_eq_none]
      intro v hv
      obtain ⟨y, hy, rfl⟩ := List.mem_map.1 hv
      have := List.findIdx?_eq_none_iff.1 h y hy
      simp [this]
    rw [this]; rfl
  | some i =>
    rw [List.findIdx?_eq_some_iff_getElem] at h
    obtain ⟨hl, h1, h2⟩ := h
    have : (l.map AV.v).find? (named1 s) = some l[i].v := by
      rw [List.find?_eq_some_iff_getElem]
      refine ⟨h1, i, by simpa using hl, by simp, fun j hj => ?_⟩
      have := h2 j hj
      simpa using this
    rw [this]
    show (l[i]?).map AV.v = _
    rw [List.getElem?_eq_getElem hl]; rfl
end Go.Proofs.YtjihepdjcbpgoaaGreatDoor

namespace Go.Proofs.YtjihepdjcbpgoaaGreatDoor
open Go.RowKit Go.Sort

/-- What a step hands back: a part itself, or a copy. -/
def StepPost (x : AV) (o : Option Val) (w : World) (e : Ending) (w' : World) : Prop :=
  ∃ z : AV, e = .returned (.tuple #[z.val, .bool o.isSome]) ∧ (∀ u, o = some u → z.v = u ∧ (z ∈ x.l ∨ z.In w' w.heap.size w'.heap.size)) ∧ (o = none → z = zAV) ∧ Below w.heap.size w w'
theorem step_no {x : AV} {o : Option Val} {w w' : World} (h : o = none) (hb : Below w.heap.size w w') : StepPost x o w (.returned (.tuple #[.agg #[.int .u8 0, .string ⟨#[]⟩, .slice none 0 0, .slice none 0 0], .bool false])) w' :=
  ⟨zAV, by rw [h]; rfl, (fun u hu => by rw [h] at hu; cases hu), fun _ => rfl, hb⟩
theorem step_yes {x : AV} {o : Option Val} {w w' : World} {z : AV} (h : o = some z.v) (hz : z ∈ x.l ∨ z.In w' w.heap.size w'.heap.size) (hb : Below w.heap.size w w') : StepPost x o w (.returned (.tuple #[.agg #[.int .u8 z.k, .string z.t, .slice z.la z.l.length z.lc, .slice z.ka z.ks.length z.kc], .bool true])) w' :=
  ⟨z, by rw [h]; rfl, (fun u hu => by rw [h] at hu; cases hu; exact ⟨rfl, hz⟩), (fun hn => by rw [h] at hn; cases hn), hb⟩
theorem lies_of_in {w : World} {p s e : Nat} : ∀ y : AV, y.In w s e → y.Lies w p s e := AV.ind fun _ ih h => .new h.sl h.keys h.kind fun z hz => ih z hz (h.kid hz)
theorem AV.Lies.kid {w : World} {p s e : Nat} {x y : AV} (h : x.Lies w p s e) (hy : y ∈ x.l) : y.Lies w p s e := by
  cases h with
  | old h => exact .old (h.kid hy)
  | new _ _ _ h4 => exact h4 y hy
/-- What Walk hands back: a copy. -/
def WalkPost (o : Option Val) (w : World) (e : Ending) (w' : World) : Prop :=
  ∃ y : AV, e = .returned (.tuple #[y.val, .bool o.isSome]) ∧ (∀ u, o = some u → y.v = u) ∧ (o = none → y = zAV) ∧ y.In w' w.heap.size w'.heap.size ∧ Below w.heap.size w w' ∧ y.Mn w' w.heap.size w'.heap.size
theorem zAV_mn (w : World) {lo hi : Nat} (h : lo ≤ hi) : zAV.Mn w lo hi := .mk (fun _ => lo) (Nat.le_refl _) (fun _ => Nat.le_refl _) h (fun h => absurd h (by simp [zAV])) (fun h => absurd h (by simp [zAV])) rfl rfl (by simp [zAV]) (fun i y hy => by simp [zAV] at hy)
theorem zAV_in (w : World) (lo hi : Nat) : zAV.In w lo hi := ⟨SlE.nil, SlE.nil, by simp [zAV], fun y hy => absurd hy List.not_mem_nil⟩
theorem walk_no {o : Option Val} {w w' : World} (h : o = none) (hb : Below w.heap.size w w') : WalkPost o w (.returned (.tuple #[.agg #[.int .u8 0, .string ⟨#[]⟩, .slice none 0 0, .slice none 0 0], .bool false])) w' :=
  ⟨zAV, by rw [h]; rfl, (fun u hu => by rw [h] at hu; cases hu), fun _ => rfl, zAV_in _ _ _, hb, zAV_mn _ hb.size⟩
theorem walk_take {v : Val} {p : List St} {m : Nat} {s : St} (hs : p[m]? = some s) : walkL v (p.take (m + 1)) = (walkL v (p.take m)).bind fun u => u.stp s := by
  rw [List.take_add_one, hs, Option.toList, walkL_app]
  congr 1
  funext u
  exact walkL_one u s
theorem walk_stop {v u : Val} {p : List St} {m : Nat} {s : St} (hs : p[m]? = some s) (h : walkL v (p.take m) = some u) (h2 : u.stp s = none) : walkL v p = none := by
  have h3 := walk_take (v := v) hs
  rw [h] at h3
  have h4 : walkL v (p.take (m + 1) ++ p.drop (m + 1)) = walkL v p := by rw [List.take_append_drop]
  rw [← h4, walkL_app, h3]
  show (Option.bind (some u) fun u => u.stp s).bind _ = none
  simp [h2]
theorem walkL_may {v : Val} : ∀ {p : List St} {u : Val}, v.may = true → walkL v p = some u → u.may = true := by
  intro p
  induction p generalizing v with
  | nil => intro u hm h; cases h; exact hm
  | cons s l ih =>
    intro u hm h
    simp only [walkL] at h
    cases hs : v.stp s with
    | none => rw [hs] at h; cases h
    | some y => rw [hs] at h; exact ih (stp_may hm hs) h
theorem walkL_w {v : Val} : ∀ {p : List St} {u : Val}, walkL v p = some u → u.w ≤ v.w := by
  intro p
  induction p generalizing v with
  | nil => intro u h; cases h; exact Nat.le_refl _
  | cons s l ih =>
    intro u h
    simp only [walkL] at h
    cases hs : v.stp s with
    | none => rw [hs] at h; cases h
    | some y => rw [hs] at h; exact Nat.le_trans (ih h) (Nat.le_of_lt (stp_w hs))
theorem walkV_w {v u : Val} {p : List St} (h : walkV v p = some u) : u.w ≤ v.w := by
  unfold walkV at h
  split at h
  · exact walkL_w h
  · cases h
end Go.Proofs.YtjihepdjcbpgoaaGreatDoor
