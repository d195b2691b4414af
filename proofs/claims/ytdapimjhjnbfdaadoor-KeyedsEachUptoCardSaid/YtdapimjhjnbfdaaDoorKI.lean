/-
  slices.SortFunc at triples, by names. Conditions: the row lies in memory, its length is bounded.
  How long names are; what placing names leaves. Plain; condition: the weights are bounded.
-/
import Derived.Test.YtdapimjhjnbfdaaDoorKG
import Derived.Test.YtdapimjhjnbfdaaDoorShelf4
namespace Go.Proofs.YtdapimjhjnbfdaaDoor
open Go.RowKit Go.Sort Go.Shelf

instance : Inhabited Tr := ⟨⟨⟨#[]⟩, 0, 0, 0⟩⟩
def cmpTr (a b : Tr) : Int := if Op.bytesLess a.id.toList b.id.toList = true then -1 else 1
set_option maxHeartbeats 1600000 in
theorem plan3_c (a b : Tr) (W : World) : Calls Tryd.prog 76 #[a.val, b.val] W fun e w' => e = .returned (.int .i64 (cmpTr a b)) ∧ ∃ q os, w' = grow (W.drewN q) os := by
  unfold cmpTr
  by_cases h : Op.bytesLess a.id.toList b.id.toList = true
  · rw [if_pos h]
    go_enter Tryd.func76, Tryd.ntmps76
    go_wp2_with fail
    go_ret
    exact ⟨rfl, 0, _, by rw [alloc_eq_grow, alloc_eq_grow, grow_grow]; rfl⟩
  · rw [if_neg h]
    have h' : Op.bytesLess a.id.toList b.id.toList = false := by simpa using h
    clear h
    go_enter Tryd.func76, Tryd.ntmps76
    go_wp2_with fail
    go_ret
    exact ⟨rfl, 0, _, by rw [alloc_eq_grow, alloc_eq_grow, grow_grow]; rfl⟩
theorem trLays (blk off size : Nat) (w : World) : CmpLays Tryd.prog 76 #[] Tr.enc 4 cmpTr blk off size w := fun _ _ _ _ a b => plan3_c a b _
theorem ltTr_iff (a b : Tr) : ltOf cmpTr a b = true ↔ a.id.toList < b.id.toList := by
  unfold ltOf cmpTr
  rw [bytesLess_eq, decide_eq_true_iff]
  by_cases h : a.id.toList < b.id.toList <;> simp [h]
theorem ltTr_not (a b : Tr) : ltOf cmpTr a b = false ↔ b.id.toList ≤ a.id.toList := by
  rw [← Bool.not_eq_true, ltTr_iff, List.not_lt]
theorem swoTr : SWO (ltOf cmpTr) where
  irrefl a := (ltTr_not a a).2 (List.le_refl _)
  trans a b c h1 h2 := (ltTr_iff a c).2 (List.lt_trans ((ltTr_iff a b).1 h1) ((ltTr_iff b c).1 h2))
  ntrans a b c h1 h2 := (ltTr_not a c).2 (List.le_trans ((ltTr_not b c).1 h2) ((ltTr_not a b).1 h1))
theorem isAggT : ∀ w, (isAgg (Tryd.sortT_ren.t 24)).run Tryd.prog w = .ok true w := fun w => by kernel_rfl
theorem sizeT : ∀ w, (Go.sizeOf (Tryd.sortT_ren.t 24)).run Tryd.prog w = .ok 4 w := fun w => by kernel_rfl
/-- slices.SortFunc of triples, from some triple of a block on. -/
theorem sortT_c (B off cap : Nat) (d : Array Tr) (w : World) (hH : HoldsK Tr.enc 4 w B off d) (hB : B < w.heap.size) (hsz : d.size ≤ 8388608) :
    Calls Tryd.prog 75 #[.slice (some ⟨B, off, none⟩) d.size cap, .func (.func 76) #[] #[]] w fun e w' => e = .returned (.tuple #[]) ∧
      ∃ d' : Array Tr, d'.toList.Perm d.toList ∧ d'.toList.Pairwise (fun a b => a.id.toList ≤ b.id.toList) ∧ HoldsK Tr.enc 4 w' B off d' ∧ w.grownBy w' (some B) ∧ ∀ o, o < off → w'.cell? ⟨B, o, none⟩ = w.cell? ⟨B, o, none⟩ := by
  have eg : ∀ args w, (callFunc 76 args).run Tryd.prog w = .ok (.enter 76 args) w := enters_of Tryd.func76 (by kernel_rfl) rfl
  have hcon := AnyQ.slices_SortFunc Tryd.sortT 4 isAggT sizeT Tr.enc (fun _ => rfl) (fun x v hv => by simp [Tr.enc] at hv; rcases hv with rfl | rfl | rfl | rfl <;> rfl) _ swoTr 76 #[] B off cap d w eg (trLays B off d.size w) hH hB (by omega)
  refine hcon.mono ?_
  rintro e w' ⟨rfl, d', n, os, ⟨hs, -, hp⟩, hso, rfl⟩
  have hH' := holdsK_sortWorldK_c Tr.enc 4 w B off d d' n os hH hB hs
  have hsize := size_sortWorldK_c Tr.enc 4 w B off n d' os
  refine ⟨rfl, d', ?_, ?_, hH', ⟨rfl, rfl, rfl, hsize, fun k hk hne => ?_⟩, fun o ho => ?_⟩
  · have e1 : d'.extract 0 d.size = d' := by rw [← hs]; exact Array.extract_size
    have e2 : d.extract 0 d.size = d := Array.extract_size
    rw [e1, e2] at hp
    exact hp
  · refine List.pairwise_iff_getElem.2 fun i j hi hj hij => ?_
    have := hso i j (Nat.zero_le _) hij (by simpa [hs] using hj)
    rw [getElem!_pos d' i (by simpa using hi), getElem!_pos d' j (by simpa using hj)] at this
    exact (ltTr_not _ _).1 this
  · unfold sortWorldK
    rw [heap_grow_old _ _ (by simpa [putRowK] using hk)]
    have : B ≠ k := fun e => hne (by rw [e])
    simp [putRowK, putRow, mapBlock, Sort.ahead, Array.getElem?_modify, this]
  · have hb : (sortWorldK Tr.enc 4 w B off n d' os).heap[B]? = (w.heap[B]?).map (onCells (putCells id off (flatK Tr.enc 4 d'))) := by
      unfold sortWorldK
      rw [heap_grow_old _ _ (by simpa [putRowK] using hB)]
      simp [putRowK, putRow, mapBlock, Sort.ahead, Array.getElem?_modify]
    simp only [World.cell?, hb]
    cases hc : w.heap[B]? with
    | none => rfl
    | some x =>
      have hno : ¬ off ≤ o := by omega
      cases x <;> simp [onCells, putCells, hno]

/-- The row behind its first triples is sorted by names: the whole row, as it reads then. -/
theorem sort_row {w : World} {base g c : Nat} {T : List Tr} (h : OwnT w base (.slice (some ⟨g, 0, none⟩) T.length c) T) (n : Nat) (hn : n < T.length) (hT : T.length ≤ 8388608) :
    Calls Tryd.prog 75 #[.slice (some ⟨g, n * 4, none⟩) (T.length - n) (c - n), .func (.func 76) #[] #[]] w fun e w' => e = .returned (.tuple #[]) ∧
      ∃ S : List Tr, S.Perm (T.drop n) ∧ S.Pairwise (fun a b => a.id.toList ≤ b.id.toList) ∧ SlE Tr.enc 4 w' g (g + 1) (some ⟨g, 0, none⟩) (T.take n ++ S) ∧ w.grownBy w' (some g) := by
  obtain ⟨hg1, hg2⟩ := h.lt g rfl
  have hcell : ∀ o, o < T.length * 4 → w.cell? ⟨g, o, none⟩ = (T.flatMap Tr.enc)[o]? := fun o ho => h.cellAt o ho
  have hH : HoldsK Tr.enc 4 w g (n * 4) (T.drop n).toArray := fun j hj => by
    rw [size_flatK, List.size_toArray, List.length_drop] at hj
    refine ⟨?_, h.frozenAt _⟩
    rw [hcell _ (by omega), get_flatK _ _ _ _ (by simpa using hj)]
    have hd : j / 4 < T.length - n := (Nat.div_lt_iff_lt_mul (by omega)).2 hj
    have hm : j % 4 < 4 := Nat.mod_lt _ (by omega)
    have hx : T[n + j / 4]? = some (T[n + j / 4]'(by omega)) := List.getElem?_eq_getElem _
    rw [show n * 4 + j = (n + j / 4) * 4 + j % 4 by omega, flat_get Tr.enc_len T _ _ _ hx hm]
    rw [getElem!_pos (T.drop n).toArray (j / 4) (by simp; omega), List.getElem_toArray, List.getElem_drop, getElem!_pos _ (j % 4) hm]
    exact List.getElem?_eq_getElem _
  have hcon := sortT_c g (n * 4) (c - n) (T.drop n).toArray w hH hg2 (by simp; omega)
  rw [List.size_toArray, List.length_drop] at hcon
  refine hcon.mono ?_
  rintro e w' ⟨rfl, d', hp, hs, hH', hgr, hc⟩
  refine ⟨rfl, d'.toList, by simpa using hp, hs, fun _ => ⟨g, 0, rfl, Nat.le_refl _, by omega, Nat.lt_of_lt_of_le hg2 hgr.size, fun i x hx j u hu => ?_⟩, hgr⟩
  have hj : j < 4 := by rw [← Tr.enc_len x]; exact (List.getElem?_eq_some_iff.1 hu).1
  have hl : (T.take n).length = n := by rw [List.length_take]; omega
  rw [Nat.zero_add]
  rcases Nat.lt_or_ge i n with hi | hi
  · rw [hc (i * 4 + j) (by omega), hcell _ (by omega), flat_get Tr.enc_len T i j x (by rw [List.getElem?_append_left (by omega), List.getElem?_take, if_pos hi] at hx; exact hx) hj, hu]
  · rw [List.getElem?_append_right (by omega), hl] at hx
    have hi2 : i - n < d'.size := by have := (List.getElem?_eq_some_iff.1 hx).1; simpa using this
    have := (hH'.cell hi2 hj).1
    rw [show i * 4 + j = n * 4 + (i - n) * 4 + j by omega, this]
    have ex : d'[i - n]! = x := by rw [getElem!_pos d' (i - n) hi2]; simpa [hi2] using hx
    rw [ex]
    have : (x.enc)[j]! = u := by rw [List.getElem!_eq_getElem?_getD, hu]; rfl
    rw [this]
end Go.Proofs.YtdapimjhjnbfdaaDoor

namespace Go.Proofs.YtdapimjhjnbfdaaDoor
open Go.RowKit Go.Sort

theorem name_size {s t : ByteArray} {v : Val} (h : nameOf s v = some t) : t.size ≤ 8 * v.w := by
  rw [nameOf] at h
  split at h
  · rename_i y hy
    split at h
    · cases h
      have h1 := Val.w_kid (get_mem hy).1
      have h2 : (textR y).length ≤ 8 * y.w := by
        unfold textR
        split
        · have := text_len 256 y; omega
        · simp
      have h3 : (⟨(textR y).toArray⟩ : ByteArray).size = (textR y).length := by simp [ByteArray.size]
      omega
    · cases h
  · cases h
theorem allSome_get {α : Type} : ∀ {l : List (Option α)} {m : List α}, allSome l = some m → l = m.map some
  | [], m, h => by simp [allSome] at h; subst h; rfl
  | none :: l, m, h => by simp [allSome] at h
  | some x :: l, m, h => by
    simp only [allSome] at h
    obtain ⟨k, hk, rfl⟩ := Option.map_eq_some_iff.1 h
    rw [allSome_get hk]; rfl
theorem namesP_get {s : ByteArray} {l : List Val} {ns : List ByteArray} (h : namesP s l = some ns) : l.map (nameOf s) = ns.map some ∧ ns.Nodup ∧ ns.length = l.length := by
  rw [namesP] at h
  split at h
  · rename_i ns' h'
    split at h
    · rename_i hn
      cases h
      have := allSome_get h'
      refine ⟨this, hn, ?_⟩
      have := congrArg List.length this
      simpa using this.symm
    · cases h
  · cases h
theorem names_size {s : ByteArray} {l : List Val} {ns : List ByteArray} (h : namesP s l = some ns) (hw : ∀ v ∈ l, v.w ≤ 1048576) : ∀ t ∈ ns, t.size ≤ Go.maxLen := fun t ht => by
  have h1 := (namesP_get h).1
  have h2 : some t ∈ l.map (nameOf s) := by rw [h1]; exact List.mem_map_of_mem ht
  obtain ⟨v, hv, e⟩ := List.mem_map.1 h2
  have := name_size e
  have := hw v hv
  unfold Go.maxLen; omega
theorem placeN_grow (side : Nat) (ns : List ByteArray) (T : List Tr) : ∀ k, T.length ≤ (placeN side ns T k).length
  | 0 => Nat.le_refl _
  | k + 1 => by
    have := placeN_grow side ns T k
    rw [placeN, place1]
    split <;> simp <;> omega
theorem place_new {side : Nat} {T : List Tr} {s : ByteArray} {i : Int} (h : s ∉ T.map Tr.id) : place1 side T s i = T ++ [(newTr s).put side i] := by
  rw [place1, idxB_none.2 h]
/-- Names that are all unlike, and none of them there, are laid in order. -/
theorem place_fresh (side : Nat) (ns : List ByteArray) (hn : ns.Nodup) : ∀ k, k ≤ ns.length → (placeN side ns [] k).map Tr.id = ns.take k
  | 0, _ => rfl
  | k + 1, hk => by
    have ih := place_fresh side ns hn k (by omega)
    have hg : ns.getD k ⟨#[]⟩ = ns[k] := by rw [List.getD_eq_getElem?_getD, List.getElem?_eq_getElem hk]; rfl
    have hnew : ns.getD k ⟨#[]⟩ ∉ (placeN side ns [] k).map Tr.id := by
      rw [ih, hg]
      intro hm
      obtain ⟨j, hj, e⟩ := List.mem_take_iff_getElem.1 hm
      have hne := (List.pairwise_iff_getElem.1 hn) j k (by omega) hk (by omega)
      exact hne e
    rw [placeN, place_new hnew, List.map_append, ih, List.take_add_one, List.getElem?_eq_getElem hk, hg]
    simp [Tr.put_id, newTr]
theorem base_len {ns : List ByteArray} (hn : ns.Nodup) : (placeN 0 ns [] ns.length).length = ns.length := by
  have := congrArg List.length (place_fresh 0 ns hn ns.length (Nat.le_refl _))
  rw [List.length_map, List.take_length] at this
  exact this
/-- All three lists placed, by whatever union. -/
def placed (u : Int) (xb xl xr : List ByteArray) : List Tr :=
  if u = 2 then placeN 1 xl (placeN 2 xr (placeN 0 xb [] xb.length) xr.length) xl.length else placeN 2 xr (placeN 1 xl (placeN 0 xb [] xb.length) xl.length) xr.length
theorem placed_len {u : Int} {xb xl xr : List ByteArray} (hn : xb.Nodup) : xb.length ≤ (placed u xb xl xr).length ∧ (placed u xb xl xr).length ≤ xb.length + xl.length + xr.length := by
  have h0 := base_len hn
  unfold placed
  split
  · have g1 := placeN_grow 2 xr (placeN 0 xb [] xb.length) xr.length
    have g2 := placeN_grow 1 xl (placeN 2 xr (placeN 0 xb [] xb.length) xr.length) xl.length
    have g3 := placeN_len 2 xr (placeN 0 xb [] xb.length) xr.length
    have g4 := placeN_len 1 xl (placeN 2 xr (placeN 0 xb [] xb.length) xr.length) xl.length
    omega
  · have g1 := placeN_grow 1 xl (placeN 0 xb [] xb.length) xl.length
    have g2 := placeN_grow 2 xr (placeN 1 xl (placeN 0 xb [] xb.length) xl.length) xr.length
    have g3 := placeN_len 1 xl (placeN 0 xb [] xb.length) xl.length
    have g4 := placeN_len 2 xr (placeN 1 xl (placeN 0 xb [] xb.length) xl.length) xr.length
    omega
/-- What Plan hands back, of names: placed, and what is new by names if the union is neither left's nor right's. -/
def PlanIs (u : Int) (xb xl xr : List ByteArray) (T : List Tr) : Prop :=
  if u = 1 ∨ u = 2 then T = placed u xb xl xr else ∃ S : List Tr, S.Perm ((placed u xb xl xr).drop xb.length) ∧ S.Pairwise (fun a b => a.id.toList ≤ b.id.toList) ∧ T = (placed u xb xl xr).take xb.length ++ S
end Go.Proofs.YtdapimjhjnbfdaaDoor
