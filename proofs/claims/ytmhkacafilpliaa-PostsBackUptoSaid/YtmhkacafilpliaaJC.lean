/-
  posts.entries: what a value has, each under its key, in the order of the keys; an element of a list under none, in the list's own order. Conditions: the tree lies in memory, its weight is bounded; a map has as many keys as parts.
  posts.entries, walked. Conditions: the tree lies in memory, its weight is bounded; a map has as many keys as parts.
-/
import Derived.Test.YtmhkacafilpliaaJA
import Derived.Test.YtmhkacafilpliaaSX
import Derived.IntWalk
namespace Go.Proofs.Ytmhkacafilpliaa
open Go.RowKit Go.Sort Go.Shelf

/-- A value where it lies, with its addresses. -/
structure PE where
  kd : Bool
  key : ByteArray
  x : AV
instance : Inhabited PE := ⟨⟨false, ⟨#[]⟩, default⟩⟩
def PE.plc (e : PE) : Plc := ⟨e.kd, e.key, e.x.v⟩
def PE.enc (e : PE) : List Value := [.string e.key, .bool e.kd, .int .u8 e.x.k, .string e.x.t, .slice e.x.la e.x.l.length e.x.lc, .slice e.x.ka e.x.ks.length e.x.kc]
abbrev PE.val (e : PE) : Value := .agg #[.string e.key, .bool e.kd, .int .u8 e.x.k, .string e.x.t, .slice e.x.la e.x.l.length e.x.lc, .slice e.x.ka e.x.ks.length e.x.kc]
theorem PE.enc_len (e : PE) : e.enc.length = 6 := rfl
theorem PE.enc_one (e : PE) : ∀ v ∈ e.enc, v.oneCell' = true := fun v hv => by
  simp [PE.enc] at hv; rcases hv with rfl | rfl | rfl | rfl | rfl | rfl <;> rfl
/-- What a value has, as it stands. -/
def AV.pes (x : AV) : List PE := if x.k = 8 then (x.ks.zip x.l).map (fun p => ⟨true, p.1, p.2⟩) else x.l.map fun y => ⟨false, ⟨#[]⟩, y⟩
def cfP (a b : PE) : Int := cmpStr a.key b.key
/-- .. in order. -/
def AV.psub (x : AV) : List PE := stab (ltOf cfP) x.pes

theorem ltP_iff (a b : PE) : ltOf cfP a b = true ↔ a.key.toList < b.key.toList := by
  unfold ltOf cfP
  rw [decide_eq_true_iff, cmpStr_lt]
theorem ltP_not (a b : PE) : ltOf cfP a b = false ↔ b.key.toList ≤ a.key.toList := by
  rw [← Bool.not_eq_true, ltP_iff, List.not_lt]
theorem swoP : SWO (ltOf cfP) where
  irrefl a := (ltP_not a a).2 (List.le_refl _)
  trans a b c h1 h2 := (ltP_iff a c).2 (List.lt_trans ((ltP_iff a b).1 h1) ((ltP_iff b c).1 h2))
  ntrans a b c h1 h2 := (ltP_not a c).2 (List.le_trans ((ltP_not b c).1 h2) ((ltP_not a b).1 h1))
theorem psub_perm (x : AV) : x.psub.Perm x.pes := stab_perm _
theorem pes_mem {x : AV} {e : PE} (h : e ∈ x.pes) : e.x ∈ x.l := by
  unfold AV.pes at h
  split at h
  · obtain ⟨p, hp, rfl⟩ := List.mem_map.1 h
    exact (List.of_mem_zip hp).2
  · obtain ⟨y, hy, rfl⟩ := List.mem_map.1 h
    exact hy
theorem psub_mem {x : AV} {e : PE} (h : e ∈ x.psub) : e.x ∈ x.l := pes_mem ((psub_perm x).mem_iff.1 h)
theorem psub_len {x : AV} (h : x.k = 8 → x.ks.length = x.l.length) : x.psub.length = x.l.length := by
  rw [(psub_perm x).length_eq]
  unfold AV.pes
  split
  · next h8 => have := h h8; simp [this]
  · simp
/-- .. are the plain ones. -/
theorem psub_plc {x : AV} (hs : x.v.shape = true) : x.psub.map PE.plc = x.v.subs := by
  unfold Val.subs
  rw [AV.v_k]
  by_cases h8 : x.k = 8
  · obtain ⟨hl, hnd⟩ := shape_eight hs (by rw [AV.v_k]; exact h8)
    rw [if_pos h8]
    have hkd : ∀ e ∈ x.psub, e.kd = true := fun e he => by
      have := (psub_perm x).mem_iff.1 he
      unfold AV.pes at this
      rw [if_pos h8] at this
      obtain ⟨p, hp, rfl⟩ := List.mem_map.1 this
      rfl
    have he : (x.psub.map fun e => (e.key, e.x.v)) = x.v.ents := by
      refine ents_of x.v hnd ?_ ?_
      · have h1 := (psub_perm x).map fun e => (e.key, e.x.v)
        refine h1.trans (List.Perm.of_eq ?_)
        unfold AV.pes
        rw [if_pos h8, List.map_map, AV.v_ks, AV.v_l, List.zip_map_right]
        rfl
      · have h1 := stab_asc swoP x.pes
        refine List.Pairwise.map _ (fun a b h => ?_) h1
        exact (ltP_not _ _).1 h
    rw [← he, List.map_map]
    refine List.map_congr_left fun e hm => ?_
    show PE.plc e = ⟨true, e.key, e.x.v⟩
    rw [← hkd e hm]; rfl
  · rw [if_neg h8]
    have he : x.pes = x.l.map fun y => ⟨false, ⟨#[]⟩, y⟩ := by unfold AV.pes; rw [if_neg h8]
    have h1 : x.psub = x.pes := by
      refine stab_of_asc (List.pairwise_iff_getElem.2 fun i j hi hj hij => (ltP_not _ _).2 ?_)
      have e1 : ∀ i (h : i < x.pes.length), x.pes[i].key = ⟨#[]⟩ := fun i h => by
        have := List.getElem_mem h
        generalize x.pes[i] = e at this
        rw [he] at this
        obtain ⟨y, hy, rfl⟩ := List.mem_map.1 this
        rfl
      rw [e1, e1]
      exact List.le_refl _
    rw [h1, he, List.map_map, AV.v_l, List.map_map]
    rfl

/-- Cells laid one behind the other. -/
def setL (w : World) (B o : Nat) : List Value → World
  | [] => w
  | v :: vs => setL (w.setCell ⟨B, o, none⟩ v) B (o + 1) vs
theorem setL_cell (B : Nat) : ∀ (vs : List Value) (w : World) (o q : Nat), (∀ j, j < vs.length → ∃ u, w.cell? ⟨B, o + j, none⟩ = some u) → (setL w B o vs).cell? ⟨B, q, none⟩ = if o ≤ q ∧ q < o + vs.length then vs[q - o]? else w.cell? ⟨B, q, none⟩
  | [], w, o, q, _ => by rw [if_neg (fun h => by have h2 := h.2; simp only [List.length_nil] at h2; omega)]; rfl
  | v :: vs, w, o, q, h => by
    obtain ⟨u, hu⟩ := h 0 (by simp)
    have c1 := cell1 (v := v) hu
    rw [setL, setL_cell B vs _ (o + 1) q (fun j hj => by
      obtain ⟨u2, hu2⟩ := h (j + 1) (by simp; omega)
      refine ⟨u2, ?_⟩
      have := c1 (o + 1 + j)
      rw [if_neg (by omega)] at this
      rw [show (⟨B, o, none⟩ : Addr) = ⟨B, o + 0, none⟩ from rfl, this, show o + 1 + j = o + (j + 1) by omega]
      exact hu2)]
    by_cases h1 : o + 1 ≤ q ∧ q < o + 1 + vs.length
    · rw [if_pos h1, if_pos (by simp; omega), show q - o = q - (o + 1) + 1 by omega, List.getElem?_cons_succ]
    · rw [if_neg h1]
      have := c1 q
      rw [Nat.add_zero] at this
      rw [this]
      by_cases h2 : q = o
      · subst h2
        rw [if_pos rfl, if_pos (by simp), Nat.sub_self]; rfl
      · rw [if_neg h2, if_neg (by simp; omega)]
theorem setL_frozen (B : Nat) : ∀ (vs : List Value) (w : World) (o : Nat) (p : Addr), (setL w B o vs).frozen? p = w.frozen? p
  | [], _, _, _ => rfl
  | v :: vs, w, o, p => by rw [setL, setL_frozen B vs]; simp
theorem setL_size (B : Nat) : ∀ (vs : List Value) (w : World) (o : Nat), (setL w B o vs).heap.size = w.heap.size
  | [], _, _ => rfl
  | v :: vs, w, o => by rw [setL, setL_size B vs]; simp
theorem setL_below {N B : Nat} {w0 : World} : ∀ (vs : List Value) (w : World) (o : Nat), Below N w0 w → N ≤ B → Below N w0 (setL w B o vs)
  | [], _, _, h, _ => h
  | v :: vs, _w, o, h, hB => setL_below vs _ _ (h.setCell (p := ⟨B, o, none⟩) hB v) hB
theorem setL_knd {B b : Nat} {t : TypeId} : ∀ (vs : List Value) (w : World) (o : Nat), Knd w b t → Knd (setL w B o vs) b t
  | [], _, _, h => h
  | v :: vs, w, o, h => by
    refine setL_knd vs _ _ ?_
    by_cases e : b = B
    · subst e; exact h.set o v
    · obtain ⟨cs, h⟩ := h
      exact ⟨cs, (Below.heap_setCell w ⟨B, o, none⟩ v b (fun e' => e e')).trans h⟩

abbrev zP : List Value := [.string ⟨#[]⟩, .bool false, .int .u8 0, .string ⟨#[]⟩, .slice none 0 0, .slice none 0 0]
/-- The row of entries, k of them laid. -/
def RowS (P : List PE) (k : Nat) (w : World) (B : Nat) : Prop := ∀ i j, i < P.length → j < 6 → w.cell? ⟨B, i * 6 + j, none⟩ = (if i < k then (P[i]?.getD default).enc else zP)[j]?
theorem RowS.spare {P : List PE} {k B : Nat} {w : World} (h : RowS P k w B) {q : Nat} (hq : q < P.length * 6) : ∃ u, w.cell? ⟨B, q, none⟩ = some u := by
  have h1 : q / 6 < P.length := by omega
  have h2 : q % 6 < 6 := Nat.mod_lt _ (by omega)
  have := h (q / 6) (q % 6) h1 h2
  rw [show q / 6 * 6 + q % 6 = q by omega] at this
  rw [this]
  have hl : (if q / 6 < k then (P[q / 6]?.getD default).enc else zP).length = 6 := by split <;> rfl
  exact ⟨_, List.getElem?_eq_getElem (by rw [hl]; exact h2)⟩
/-- A value's cells are laid. -/
theorem RowS.step {P : List PE} {k B : Nat} {w : World} (h : RowS P k w B) (hk : k < P.length) {y : AV} (hp : P[k]? = some ⟨false, ⟨#[]⟩, y⟩) :
    RowS P (k + 1) (setL w B (k * 6 + 2) [.int .u8 y.k, .string y.t, .slice y.la y.l.length y.lc, .slice y.ka y.ks.length y.kc]) B := by
  intro i j hi hj
  rw [setL_cell _ _ _ _ _ (fun a ha => by have ha : a < 4 := ha; exact h.spare (by omega))]
  have h0 := h i j hi hj
  by_cases hik : i = k
  · subst hik
    rw [if_neg (Nat.lt_irrefl i)] at h0
    rw [if_pos (Nat.lt_succ_self i), hp]
    match j, hj with
    | 0, _ => rw [if_neg (fun h => by have := h.1; omega)]; exact h0
    | 1, _ => rw [if_neg (fun h => by have := h.1; omega)]; exact h0
    | 2, _ => rw [if_pos (by simp), show i * 6 + 2 - (i * 6 + 2) = 0 by omega]; rfl
    | 3, _ => rw [if_pos (by simp), show i * 6 + 3 - (i * 6 + 2) = 1 by omega]; rfl
    | 4, _ => rw [if_pos (by simp), show i * 6 + 4 - (i * 6 + 2) = 2 by omega]; rfl
    | 5, _ => rw [if_pos (by simp), show i * 6 + 5 - (i * 6 + 2) = 3 by omega]; rfl
  · rw [if_neg (by simp; omega), h0]
    by_cases h1 : i < k
    · rw [if_pos h1, if_pos (by omega)]
    · rw [if_neg h1, if_neg (by omega)]
/-- .. and the key's. -/
theorem RowS.step8 {P : List PE} {k B : Nat} {w : World} (h : RowS P k w B) (hk : k < P.length) {s : ByteArray} {y : AV} (hp : P[k]? = some ⟨true, s, y⟩) :
    RowS P (k + 1) (setL (setL w B (k * 6 + 2) [.int .u8 y.k, .string y.t, .slice y.la y.l.length y.lc, .slice y.ka y.ks.length y.kc]) B (k * 6) [.string s, .bool true]) B := by
  intro i j hi hj
  have hq : ∀ q, (setL w B (k * 6 + 2) [.int .u8 y.k, .string y.t, .slice y.la y.l.length y.lc, .slice y.ka y.ks.length y.kc]).cell? ⟨B, q, none⟩ = _ := fun q => setL_cell B _ w (k * 6 + 2) q (fun a ha => by have ha : a < 4 := ha; exact h.spare (by omega))
  rw [setL_cell _ _ _ _ _ (fun a ha => by
    have ha : a < 2 := ha
    obtain ⟨u, hu⟩ := h.spare (q := k * 6 + a) (by omega)
    refine ⟨u, ?_⟩
    rw [hq, if_neg (by simp; omega)]; exact hu), hq]
  have h0 := h i j hi hj
  by_cases hik : i = k
  · subst hik
    rw [if_pos (Nat.lt_succ_self i), hp]
    match j, hj with
    | 0, _ => rw [if_pos (by simp), show i * 6 + 0 - (i * 6) = 0 by omega]; rfl
    | 1, _ => rw [if_pos (by simp), show i * 6 + 1 - (i * 6) = 1 by omega]; rfl
    | 2, _ => rw [if_neg (by simp), if_pos (by simp), show i * 6 + 2 - (i * 6 + 2) = 0 by omega]; rfl
    | 3, _ => rw [if_neg (by simp), if_pos (by simp), show i * 6 + 3 - (i * 6 + 2) = 1 by omega]; rfl
    | 4, _ => rw [if_neg (by simp), if_pos (by simp), show i * 6 + 4 - (i * 6 + 2) = 2 by omega]; rfl
    | 5, _ => rw [if_neg (by simp), if_pos (by simp), show i * 6 + 5 - (i * 6 + 2) = 3 by omega]; rfl
  · rw [if_neg (by simp; omega), if_neg (by simp; omega), h0]
    by_cases h1 : i < k
    · rw [if_pos h1, if_pos (by omega)]
    · rw [if_neg h1, if_neg (by omega)]
theorem RowS.holds {P : List PE} {B : Nat} {w : World} (h : RowS P P.length w B) (hf : ∀ o, w.frozen? ⟨B, o, none⟩ = false) : HoldsK PE.enc 6 w B 0 P.toArray := fun j hj => by
  rw [size_flatK, List.size_toArray] at hj
  refine ⟨?_, hf _⟩
  rw [get_flatK _ _ _ _ (by simpa using hj)]
  have hd : j / 6 < P.length := (Nat.div_lt_iff_lt_mul (by omega)).2 hj
  have hm : j % 6 < 6 := Nat.mod_lt _ (by omega)
  have h1 := h (j / 6) (j % 6) hd hm
  have hx := List.getElem?_eq_getElem hd
  rw [if_pos hd, hx] at h1
  rw [show 0 + j = j / 6 * 6 + j % 6 by omega, h1]
  rw [getElem!_pos P.toArray (j / 6) (by simpa using hd), List.getElem_toArray]
  show (P[j / 6]).enc[j % 6]? = _
  rw [List.getElem?_eq_getElem (show j % 6 < (P[j / 6]).enc.length from hm), getElem!_pos _ (j % 6) hm]
  rfl

set_option maxHeartbeats 1600000 in
theorem cmpP_c (a b : PE) (W : World) : Calls Try.prog 92 #[a.val, b.val] W fun e w' => e = .returned (.int .i64 (cfP a b)) ∧ ∃ q os, w' = grow (W.drewN q) os := by
  have hcon := fun W' => Lib.hid (cmp_s W' a.key b.key)
  unfold cfP
  go_enter Try.func92, Try.ntmps92
  go_wp2_with (go_at_call 77; refine (hcon _).out.mono ?_; rintro e w' ⟨rfl, rfl⟩)
  go_ret
  exact ⟨rfl, 0, _, by rw [alloc_eq_grow, alloc_eq_grow, grow_grow]; rfl⟩
theorem cmpLaysP (blk off size : Nat) (w : World) : CmpLays Try.prog 92 #[] PE.enc 6 cfP blk off size w := fun _ _ _ _ a b => cmpP_c a b _

/-- A world of the sort's, in words of memory. -/
theorem swk_words {B _n _cap : Nat} {d : Array PE} {w w' : World} {L : List PE} (hH : HoldsK PE.enc 6 w B 0 d) (hB : B < w.heap.size) {d' : Array PE} (hs : d'.size = d.size) (hS : SWK PE.enc 6 w B 0 d' w') (hL : d'.toList = L) :
    SlE PE.enc 6 w' B (B + 1) (some ⟨B, 0, none⟩) L ∧ Below B w w' ∧ (∀ t, Knd w B t → Knd w' B t) := by
  obtain ⟨n, os, rfl⟩ := hS
  subst hL
  have hH' := holdsK_sortWorldK_c PE.enc 6 w B 0 d d' n os hH hB hs
  have hsize := size_sortWorldK_c PE.enc 6 w B 0 n d' os
  refine ⟨?_, ?_, ?_⟩
  · intro _
    refine ⟨B, 0, rfl, Nat.le_refl _, by omega, by omega, fun i x hx j u hu => ?_⟩
    have hi : i < d'.size := by have := (List.getElem?_eq_some_iff.1 hx).1; simpa using this
    have hj : j < 6 := (List.getElem?_eq_some_iff.1 hu).1
    have h := (hH'.cell hi hj).1
    have ex : d'[i]! = x := by rw [getElem!_pos d' i hi]; simpa [hi] using hx
    rw [ex] at h
    rw [h]
    have : (x.enc)[j]! = u := by rw [List.getElem!_eq_getElem?_getD, hu]; rfl
    rw [this]
  · have hg : w.grownBy (sortWorldK PE.enc 6 w B 0 n d' os) (some B) := by
      refine ⟨rfl, rfl, rfl, hsize, fun k hk hne => ?_⟩
      unfold sortWorldK
      rw [heap_grow_old _ _ (by simpa [putRowK] using hk)]
      have : B ≠ k := fun e => hne (by rw [e])
      simp [putRowK, putRow, mapBlock, Sort.ahead, Array.getElem?_modify, this]
    exact below_of_grown hg (Nat.le_of_lt hB) (fun k hk => by cases hk; exact Nat.le_refl _)
  · rintro t ⟨cs, hc⟩
    unfold sortWorldK Knd
    rw [heap_grow_old _ _ (by simpa [putRowK] using hB)]
    exact ⟨putCells id 0 (flatK PE.enc 6 d') cs, by simp only [putRowK, putRow, mapBlock, Sort.ahead, Array.getElem?_modify, if_true, hc, Option.map_some, onCells]⟩
theorem sortP_c (B n cap : Nat) (P : List PE) (w : World) (hn : P.length = n) (hH : HoldsK PE.enc 6 w B 0 P.toArray) (hB : B < w.heap.size) (hsz : n ≤ 1048576) :
    Calls Try.prog 91 #[.slice (some ⟨B, 0, none⟩) n cap, .func (.func 92) #[] #[]] w fun e w' => e = .returned (.tuple #[]) ∧
      SlE PE.enc 6 w' B (B + 1) (some ⟨B, 0, none⟩) (stab (ltOf cfP) P) ∧ Below B w w' ∧ (∀ t, Knd w B t → Knd w' B t) := by
  have eg : ∀ args w, (callFunc 92 args).run Try.prog w = .ok (.enter 92 args) w := enters_of Try.func92 (by kernel_rfl) rfl
  have R : RowK PE.enc 6 w B 0 P.toArray := ⟨fun _ => rfl, PE.enc_one, hH, hB⟩
  refine (sortStable_w PE.enc cfP swoP 92 #[] B 0 cap n P.toArray w eg (cmpLaysP B 0 _ w) R (by simpa using hn) (by omega)).mono ?_
  rintro e w' ⟨rfl, d', hS, hs, hl⟩
  exact ⟨rfl, swk_words (_n := n) (_cap := cap) hH hB (by rw [hs, List.size_toArray, hn]) hS (by rw [hl])⟩
end Go.Proofs.Ytmhkacafilpliaa

namespace Go.Proofs.Ytmhkacafilpliaa
open Go.RowKit Go.Sort Go.Shelf

theorem info_pe : (Try.prog.info? 75).map (fun i => (i.zero, i.size, i.bytes)) = some (some (.agg zP.toArray), 6, 96) := by kernel_rfl
theorem stab_len {α : Type} {lt : α → α → Bool} (l : List α) : (stab lt l).length = l.length := (stab_perm l).length_eq
def PEntPost (x : AV) (w : World) (e : Ending) (w' : World) : Prop :=
  ∃ g, e = .returned (.slice (some ⟨g, 0, none⟩) x.psub.length x.psub.length) ∧ SlE PE.enc 6 w' g (g + 1) (some ⟨g, 0, none⟩) x.psub ∧ w.heap.size ≤ g ∧ g < w'.heap.size ∧ Below w.heap.size w w' ∧ Knd w' g 75
theorem zP_cells {n : Nat} {i j : Nat} (h1 : i < n) (h2 : j < 6) : (madeCells (Value.agg zP.toArray).cells (n * 6))[i * 6 + j]? = zP[j]? := by
  have h3 : i * 6 + j < n * 6 := by omega
  have h4 : (i * 6 + j) % 6 = j := by omega
  have h5 : (madeCells (Value.agg zP.toArray).cells (n * 6))[i * 6 + j]? = some zP.toArray[(i * 6 + j) % 6]! := by
    simp only [madeCells, Value.cells]
    rw [Array.getElem?_eq_getElem (by simpa using h3)]
    simp
  rw [h5, h4]
  match j, h2 with
  | 0, _ => rfl
  | 1, _ => rfl
  | 2, _ => rfl
  | 3, _ => rfl
  | 4, _ => rfl
  | 5, _ => rfl
/-- The row as make leaves it. -/
theorem RowS.made {P : List PE} {w : World} {B : Nat} {t : TypeId} (h : w.heap[B]? = some (.cells (madeCells (Value.agg zP.toArray).cells (P.length * 6)) t (0, 0))) : RowS P 0 w B := fun i j hi hj => by
  rw [if_neg (Nat.not_lt_zero _), ← zP_cells hi hj]
  simp [World.cell?, h]
theorem RowS.alloc {P : List PE} {k B : Nat} {w : World} (h : RowS P k w B) (hB : B < w.heap.size) (o : Obj) : RowS P k (w.alloc o) B := fun i j hi hj => by
  rw [World.cell?_of_block (w := w) (Below.heap_alloc w o B hB)]; exact h i j hi hj
theorem frz_alloc {B : Nat} {w : World} (h : ∀ o, w.frozen? ⟨B, o, none⟩ = false) (hB : B < w.heap.size) (o : Obj) (q : Nat) : (w.alloc o).frozen? ⟨B, q, none⟩ = false := by
  rw [World.frozen?_of_block (w := w) (Below.heap_alloc w o B hB)]; exact h q
theorem Knd.alloc {B : Nat} {w : World} {t : TypeId} (h : Knd w B t) (o : Obj) : Knd (w.alloc o) B t := h.below ((Below.refl _ w).alloc (Nat.le_refl _) o)
set_option maxRecDepth 100000 in
set_option maxHeartbeats 3200000 in
theorem pentries_l (w : World) (x : AV) (hx : Rd w x) (hw : x.w ≤ 1048576) (h8 : ¬ x.k = 8) : Calls Try.prog 84 #[x.val] w (PEntPost x w) := by
  have hll := x.w_l
  have hn : x.l.length ≤ 1048576 := by omega
  obtain ⟨i0, hi, hz0, hz1, hz2⟩ := info_parts info_pe
  have hmk := fun W => run_make (P := Try.prog) W 117 75 i0 _ Try.underlying117 hi hz0 .i64 .i64 x.l.length x.l.length (by omega) (Int.le_refl _) (by rw [hz2]; omega) (by omega)
  rw [hz1, Int.toNat_natCast] at hmk
  have hpl : x.pes = x.l.map fun y => ⟨false, ⟨#[]⟩, y⟩ := by unfold AV.pes; rw [if_neg h8]
  have hlen : x.pes.length = x.l.length := by rw [hpl, List.length_map]
  have hps : x.psub.length = x.l.length := by rw [AV.psub, stab_len, hlen]
  have HPS := Lib.hid hps
  have HLEN := Lib.hid hlen
  obtain ⟨mc, hmc⟩ : ∃ mc, mc = madeCells (Value.agg zP.toArray).cells (x.l.length * 6) := ⟨_, rfl⟩
  rw [← hmc] at hmk
  have HMC := Lib.hid hmc
  have HPL := Lib.hid hpl
  have hkd : (x.k == 8) = false := by simpa using h8
  clear hi hz0 hz1 hz2 hmc hps hlen hpl h8
  unfold PEntPost
  go_enter Try.func84, Try.ntmps84
  go_wp2_with fail
  go_loopw [4, 5, 13] (fun _ _ i wr => ∃ k : Nat, k ≤ x.l.length ∧ i = .int .i64 k ∧ RowS x.pes k wr (w.heap.size + 1) ∧ (∀ o, wr.frozen? ⟨w.heap.size + 1, o, none⟩ = false) ∧ w.heap.size + 2 ≤ wr.heap.size ∧ Below (w.heap.size + 1) (w.alloc (.cells x.enc.toArray 26)) wr ∧ Knd wr (w.heap.size + 1) 75) (fun _ _ i _ => x.l.length - (intOf i).toNat)
  case atStart =>
    have h := heap_alloc_new (w.alloc (.cells #[.int .u8 x.k, .string x.t, .slice x.la x.l.length x.lc, .slice x.ka x.ks.length x.kc] 26)) (.cells mc 75)
    rw [World.size_alloc] at h
    refine ⟨0, Nat.zero_le _, rfl, RowS.made (t := 75) ?_, fun o => ?_, by simp, (Below.refl _ _).alloc (by simp) _, ⟨_, h⟩⟩
    · rw [HLEN.out, ← HMC.out]; exact h
    · simp only [World.frozen?, h]; simp
  case round =>
    obtain ⟨k, hk, rfl, hcs, hfz, hsz, hbw, hkn⟩ := hrel
    have HKN := Lib.hid hkn
    clear hkn
    have hbox : wr.heap[w.heap.size]? = some (.cells x.enc.toArray 26 (0, 0)) := (hbw.block w.heap.size (by omega)).trans (heap_alloc_new w _)
    obtain ⟨q0, q1, q2, q3, -, -, -, -⟩ := vbox4 hbox
    clear hbox
    have HCS := Lib.hid hcs
    have HF := Lib.hid hfz
    by_cases hlt : k < x.l.length
    · have hls : x.l[k]? = some x.l[k] := List.getElem?_eq_getElem hlt
      have hpk : x.pes[k]? = some ⟨false, ⟨#[]⟩, x.l[k]⟩ := by rw [HPL.out, List.getElem?_map, hls]; rfl
      generalize x.l[k] = y at *
      obtain ⟨c, off', hla, -, hc1, hc2, g0, g1, g2, g3⟩ := vals_at hx.sl hls
      have hw0 : Below w.heap.size w wr := ((Below.refl w.heap.size w).alloc (Nat.le_refl _) _).trans (hbw.mono (by omega))
      rw [← hw0.cell (p := ⟨_, _, none⟩) hc2] at g0 g1 g2 g3
      rw [hla] at q2
      have hsp := fun q (hq : q < x.l.length * 6) => hcs.spare (q := q) (by rw [HLEN.out]; exact hq)
      obtain ⟨v2, d2⟩ := hsp (k * 6 + 2) (by omega)
      obtain ⟨v3, d3⟩ := hsp (k * 6 + 3) (by omega)
      obtain ⟨v4, d4⟩ := hsp (k * 6 + 4) (by omega)
      obtain ⟨v5, d5⟩ := hsp (k * 6 + 5) (by omega)
      have f2 := hfz (k * 6 + 2)
      have f3 := hfz (k * 6 + 3)
      have f4 := hfz (k * 6 + 4)
      have f5 := hfz (k * 6 + 5)
      have hcc : c < wr.heap.size := by omega
      have hB1 : w.heap.size + 1 < wr.heap.size := by omega
      have hB0 : w.heap.size < wr.heap.size := by omega
      have i2 : (k : Int) < x.l.length := by omega
      have HPK := Lib.hid hpk
      have HLA := Lib.hid hla
      have HX := Lib.hid hx
      have HBW := Lib.hid hbw
      rw [hla]
      clear hcs hfz hls hpk hla hmk hsp hw0 hx hbw
      go_wp2_with fail
      have hR := HCS.out.step (y := y) (by rw [HLEN.out]; exact hlt) HPK.out
      have hS := setL_size (w.heap.size + 1) [.int .u8 y.k, .string y.t, .slice y.la y.l.length y.lc, .slice y.ka y.ks.length y.kc] wr (k * 6 + 2)
      have hFz := fun q => (setL_frozen (w.heap.size + 1) [.int .u8 y.k, .string y.t, .slice y.la y.l.length y.lc, .slice y.ka y.ks.length y.kc] wr (k * 6 + 2) ⟨w.heap.size + 1, q, none⟩).trans (HF.out q)
      have hBl := setL_below [.int .u8 y.k, .string y.t, .slice y.la y.l.length y.lc, .slice y.ka y.ks.length y.kc] wr (k * 6 + 2) HBW.out (Nat.le_refl _)
      have hKn := setL_knd (B := w.heap.size + 1) [.int .u8 y.k, .string y.t, .slice y.la y.l.length y.lc, .slice y.ka y.ks.length y.kc] wr (k * 6 + 2) HKN.out
      have hE : ((((wr.setCell ⟨w.heap.size + 1, k * 6 + 2, none⟩ (.int .u8 y.k)).setCell ⟨w.heap.size + 1, k * 6 + 2 + 1, none⟩ (.string y.t)).setCell ⟨w.heap.size + 1, k * 6 + 2 + 2, none⟩ (.slice y.la y.l.length y.lc)).setCell ⟨w.heap.size + 1, k * 6 + 2 + 3, none⟩ (.slice y.ka y.ks.length y.kc)) = setL wr (w.heap.size + 1) (k * 6 + 2) [.int .u8 y.k, .string y.t, .slice y.la y.l.length y.lc, .slice y.ka y.ks.length y.kc] := rfl
      rw [hE]
      generalize setL wr (w.heap.size + 1) (k * 6 + 2) [.int .u8 y.k, .string y.t, .slice y.la y.l.length y.lc, .slice y.ka y.ks.length y.kc] = W2 at *
      have hBs : w.heap.size + 1 < W2.heap.size := by rw [hS]; exact hB1
      exact ⟨⟨k + 1, by omega, by go_num, hR.alloc hBs _, fun o => frz_alloc hFz hBs _ o, by rw [World.size_alloc]; omega, hBl.alloc (by omega) _, hKn.alloc _⟩, by simp [intOf]; omega⟩
    · obtain rfl : k = x.l.length := by omega
      rw [← HLEN.out] at hcs
      have hc0 := Lib.hid (sortP_c (w.heap.size + 1) x.l.length x.l.length x.pes wr HLEN.out (hcs.holds hfz) (by omega) hn)
      have hw0 : Below w.heap.size w wr := ((Below.refl w.heap.size w).alloc (Nat.le_refl _) _).trans (hbw.mono (by omega))
      have HW := Lib.hid hw0
      clear hcs hfz hmk HCS HF hw0 hbw
      go_wp2_with (go_at_call 91; refine hc0.out.mono ?_; rintro e w2 ⟨rfl, hsl, hb, hkk⟩; have HSL := Lib.hid hsl; have HB := Lib.hid hb; have HKK := Lib.hid hkk; clear hsl hb hkk)
      go_ret
      have hz := HB.out.size
      exact ⟨w.heap.size + 1, by rw [HPS.out]; rfl, HSL.out, by omega, by omega, HW.out.trans (HB.out.mono (by omega)), HKK.out _ HKN.out⟩
set_option maxRecDepth 100000 in
set_option maxHeartbeats 3200000 in
theorem pentries_m (w : World) (x : AV) (hx : Rd w x) (hw : x.w ≤ 1048576) (h8 : x.k = 8) (hkl : x.ks.length = x.l.length) : Calls Try.prog 84 #[x.val] w (PEntPost x w) := by
  have hll := x.w_l
  have hn : x.l.length ≤ 1048576 := by omega
  obtain ⟨i0, hi, hz0, hz1, hz2⟩ := info_parts info_pe
  have hmk := fun W => run_make (P := Try.prog) W 117 75 i0 _ Try.underlying117 hi hz0 .i64 .i64 x.l.length x.l.length (by omega) (Int.le_refl _) (by rw [hz2]; omega) (by omega)
  rw [hz1, Int.toNat_natCast] at hmk
  have hpl : x.pes = (x.ks.zip x.l).map (fun p => ⟨true, p.1, p.2⟩) := by unfold AV.pes; rw [if_pos h8]
  have hlen : x.pes.length = x.l.length := by rw [hpl, List.length_map, List.length_zip, hkl, Nat.min_self]
  have HKL := Lib.hid hkl
  have hps : x.psub.length = x.l.length := by rw [AV.psub, stab_len, hlen]
  have HPS := Lib.hid hps
  have HLEN := Lib.hid hlen
  obtain ⟨mc, hmc⟩ : ∃ mc, mc = madeCells (Value.agg zP.toArray).cells (x.l.length * 6) := ⟨_, rfl⟩
  rw [← hmc] at hmk
  have HMC := Lib.hid hmc
  have HPL := Lib.hid hpl
  have hkd : (x.k == 8) = true := by simpa using h8
  clear hi hz0 hz1 hz2 hmc hps hlen hpl h8 hkl
  unfold PEntPost
  go_enter Try.func84, Try.ntmps84
  go_wp2_with fail
  go_loopw [4, 5, 13] (fun _ _ i wr => ∃ k : Nat, k ≤ x.l.length ∧ i = .int .i64 k ∧ RowS x.pes k wr (w.heap.size + 1) ∧ (∀ o, wr.frozen? ⟨w.heap.size + 1, o, none⟩ = false) ∧ w.heap.size + 2 ≤ wr.heap.size ∧ Below (w.heap.size + 1) (w.alloc (.cells x.enc.toArray 26)) wr ∧ Knd wr (w.heap.size + 1) 75) (fun _ _ i _ => x.l.length - (intOf i).toNat)
  case atStart =>
    have h := heap_alloc_new (w.alloc (.cells #[.int .u8 x.k, .string x.t, .slice x.la x.l.length x.lc, .slice x.ka x.ks.length x.kc] 26)) (.cells mc 75)
    rw [World.size_alloc] at h
    refine ⟨0, Nat.zero_le _, rfl, RowS.made (t := 75) ?_, fun o => ?_, by simp, (Below.refl _ _).alloc (by simp) _, ⟨_, h⟩⟩
    · rw [HLEN.out, ← HMC.out]; exact h
    · simp only [World.frozen?, h]; simp
  case round =>
    obtain ⟨k, hk, rfl, hcs, hfz, hsz, hbw, hkn⟩ := hrel
    have HKN := Lib.hid hkn
    clear hkn
    have hbox : wr.heap[w.heap.size]? = some (.cells x.enc.toArray 26 (0, 0)) := (hbw.block w.heap.size (by omega)).trans (heap_alloc_new w _)
    obtain ⟨q0, q1, q2, q3, -, -, -, -⟩ := vbox4 hbox
    clear hbox
    have HCS := Lib.hid hcs
    have HF := Lib.hid hfz
    by_cases hlt : k < x.l.length
    · have hls : x.l[k]? = some x.l[k] := List.getElem?_eq_getElem hlt
      have hlk : k < x.ks.length := by have := HKL.out; omega
      have hks : x.ks[k]? = some x.ks[k] := List.getElem?_eq_getElem hlk
      have hpk : x.pes[k]? = some ⟨true, x.ks[k], x.l[k]⟩ := by rw [HPL.out, List.getElem?_map, (List.getElem?_zip_eq_some (z := (x.ks[k], x.l[k]))).2 ⟨hks, hls⟩]; rfl
      generalize x.l[k] = y at *
      generalize x.ks[k] = u at *
      obtain ⟨b, off, hka, -, hb1, hb2, h0⟩ := key_at hx.keys hks
      obtain ⟨c, off', hla, -, hc1, hc2, g0, g1, g2, g3⟩ := vals_at hx.sl hls
      have hw0 : Below w.heap.size w wr := ((Below.refl w.heap.size w).alloc (Nat.le_refl _) _).trans (hbw.mono (by omega))
      rw [← hw0.cell (p := ⟨_, _, none⟩) hc2] at g0 g1 g2 g3
      rw [← hw0.cell (p := ⟨_, _, none⟩) hb2] at h0
      rw [hla] at q2
      rw [hka] at q3
      have hsp := fun q (hq : q < x.l.length * 6) => hcs.spare (q := q) (by rw [HLEN.out]; exact hq)
      obtain ⟨v0, d0⟩ := hsp (k * 6) (by omega)
      obtain ⟨v1, d1⟩ := hsp (k * 6 + 1) (by omega)
      obtain ⟨v2, d2⟩ := hsp (k * 6 + 2) (by omega)
      obtain ⟨v3, d3⟩ := hsp (k * 6 + 3) (by omega)
      obtain ⟨v4, d4⟩ := hsp (k * 6 + 4) (by omega)
      obtain ⟨v5, d5⟩ := hsp (k * 6 + 5) (by omega)
      have f0 := hfz (k * 6)
      have f1 := hfz (k * 6 + 1)
      have f2 := hfz (k * 6 + 2)
      have f3 := hfz (k * 6 + 3)
      have f4 := hfz (k * 6 + 4)
      have f5 := hfz (k * 6 + 5)
      have hcc : c < wr.heap.size := by omega
      have hB1 : w.heap.size + 1 < wr.heap.size := by omega
      have hB0 : w.heap.size < wr.heap.size := by omega
      have hbb : b < wr.heap.size := by omega
      have i1 : (k : Int) < x.ks.length := by omega
      have i2 : (k : Int) < x.l.length := by omega
      have HPK := Lib.hid hpk
      have HLA := Lib.hid hla
      have HX := Lib.hid hx
      have HBW := Lib.hid hbw
      have HKA := Lib.hid hka
      rw [hla]
      clear hcs hfz hls hks hpk hla hka hmk hsp hw0 hx hbw
      go_wp2_with fail
      have hR := HCS.out.step8 (y := y) (s := u) (by rw [HLEN.out]; exact hlt) HPK.out
      have hS := setL_size (w.heap.size + 1) [.int .u8 y.k, .string y.t, .slice y.la y.l.length y.lc, .slice y.ka y.ks.length y.kc] wr (k * 6 + 2)
      have hFz := fun q => (setL_frozen (w.heap.size + 1) [.int .u8 y.k, .string y.t, .slice y.la y.l.length y.lc, .slice y.ka y.ks.length y.kc] wr (k * 6 + 2) ⟨w.heap.size + 1, q, none⟩).trans (HF.out q)
      have hBl := setL_below [.int .u8 y.k, .string y.t, .slice y.la y.l.length y.lc, .slice y.ka y.ks.length y.kc] wr (k * 6 + 2) HBW.out (Nat.le_refl _)
      have hKn := setL_knd (B := w.heap.size + 1) [.int .u8 y.k, .string y.t, .slice y.la y.l.length y.lc, .slice y.ka y.ks.length y.kc] wr (k * 6 + 2) HKN.out
      have hE : ((((wr.setCell ⟨w.heap.size + 1, k * 6 + 2, none⟩ (.int .u8 y.k)).setCell ⟨w.heap.size + 1, k * 6 + 2 + 1, none⟩ (.string y.t)).setCell ⟨w.heap.size + 1, k * 6 + 2 + 2, none⟩ (.slice y.la y.l.length y.lc)).setCell ⟨w.heap.size + 1, k * 6 + 2 + 3, none⟩ (.slice y.ka y.ks.length y.kc)) = setL wr (w.heap.size + 1) (k * 6 + 2) [.int .u8 y.k, .string y.t, .slice y.la y.l.length y.lc, .slice y.ka y.ks.length y.kc] := rfl
      rw [hE]
      generalize setL wr (w.heap.size + 1) (k * 6 + 2) [.int .u8 y.k, .string y.t, .slice y.la y.l.length y.lc, .slice y.ka y.ks.length y.kc] = W1 at *
      have hS2 := (setL_size (w.heap.size + 1) [.string u, .bool true] W1 (k * 6)).trans hS
      have hFz2 := fun q => (setL_frozen (w.heap.size + 1) [.string u, .bool true] W1 (k * 6) ⟨w.heap.size + 1, q, none⟩).trans (hFz q)
      have hBl2 := setL_below [.string u, .bool true] W1 (k * 6) hBl (Nat.le_refl _)
      have hKn2 := setL_knd (B := w.heap.size + 1) [.string u, .bool true] W1 (k * 6) hKn
      have hE2 : ((W1.setCell ⟨w.heap.size + 1, k * 6, none⟩ (.string u)).setCell ⟨w.heap.size + 1, k * 6 + 1, none⟩ (.bool true)) = setL W1 (w.heap.size + 1) (k * 6) [.string u, .bool true] := rfl
      rw [hE2]
      clear hS hFz hBl hKn hE hE2
      generalize setL W1 (w.heap.size + 1) (k * 6) [.string u, .bool true] = W2 at *
      have hBs : w.heap.size + 1 < W2.heap.size := by rw [hS2]; exact hB1
      exact ⟨⟨k + 1, by omega, by go_num, hR.alloc hBs _, fun o => frz_alloc hFz2 hBs _ o, by rw [World.size_alloc]; omega, hBl2.alloc (by omega) _, hKn2.alloc _⟩, by simp [intOf]; omega⟩
    · obtain rfl : k = x.l.length := by omega
      rw [← HLEN.out] at hcs
      have hc0 := Lib.hid (sortP_c (w.heap.size + 1) x.l.length x.l.length x.pes wr HLEN.out (hcs.holds hfz) (by omega) hn)
      have hw0 : Below w.heap.size w wr := ((Below.refl w.heap.size w).alloc (Nat.le_refl _) _).trans (hbw.mono (by omega))
      have HW := Lib.hid hw0
      clear hcs hfz hmk HCS HF hw0 hbw
      go_wp2_with (go_at_call 91; refine hc0.out.mono ?_; rintro e w2 ⟨rfl, hsl, hb, hkk⟩; have HSL := Lib.hid hsl; have HB := Lib.hid hb; have HKK := Lib.hid hkk; clear hsl hb hkk)
      go_ret
      have hz := HB.out.size
      exact ⟨w.heap.size + 1, by rw [HPS.out]; rfl, HSL.out, by omega, by omega, HW.out.trans (HB.out.mono (by omega)), HKK.out _ HKN.out⟩
theorem pentries_c (w : World) (x : AV) (hx : Rd w x) (hw : x.w ≤ 1048576) (hkl : x.k = 8 → x.ks.length = x.l.length) : Calls Try.prog 84 #[x.val] w (PEntPost x w) := by
  by_cases h8 : x.k = 8
  · exact pentries_m w x hx hw h8 (hkl h8)
  · exact pentries_l w x hx hw h8
end Go.Proofs.Ytmhkacafilpliaa
