/-
  values.entries: a map's entries, by keys. Conditions: the tree lies in memory, its weight is bounded, it has as many keys as parts, all keys unlike.
-/
import Derived.Test.YtcpdogjcofkpcaaDoorV5
import Derived.Test.YtcpdogjcofkpcaaDoorP3
import Derived.Test.YtcpdogjcofkpcaaDoorShelf3
import Derived.Lib.SmallJoins
namespace Go.Proofs.YtcpdogjcofkpcaaDoor
open Go.RowKit Go.Sort Go.Shelf

/-- An entry, as it lies. -/
structure Ent where
  key : ByteArray
  x : AV
instance : Inhabited AV := ⟨⟨0, ⟨#[]⟩, none, 0, [], none, 0, []⟩⟩
instance : Inhabited Ent := ⟨⟨⟨#[]⟩, default⟩⟩
def Ent.enc (e : Ent) : List Value := [.string e.key, .int .u8 e.x.k, .string e.x.t, .slice e.x.la e.x.l.length e.x.lc, .slice e.x.ka e.x.ks.length e.x.kc]
abbrev Ent.val (e : Ent) : Value := .agg #[.string e.key, .int .u8 e.x.k, .string e.x.t, .slice e.x.la e.x.l.length e.x.lc, .slice e.x.ka e.x.ks.length e.x.kc]

set_option maxHeartbeats 1600000 in
theorem ahead_c (a b : Ent) (W : World) : Calls Tryd.prog 48 #[a.val, b.val] W fun e w' => e = .returned (.int .i64 (cmpStr a.key b.key)) ∧ ∃ q os, w' = grow (W.drewN q) os := by
  have hcon := fun W' => Lib.hid (cmp_s W' a.key b.key)
  go_enter Tryd.func48, Tryd.ntmps48
  go_wp2_with (go_at_call 43; refine (hcon _).out.mono ?_; rintro e w' ⟨rfl, rfl⟩)
  go_ret
  exact ⟨rfl, 0, _, by rw [alloc_eq_grow, alloc_eq_grow, grow_grow]; rfl⟩

theorem cmpLays (blk off size : Nat) (w : World) : CmpLays Tryd.prog 48 #[] Ent.enc 5 (fun a b => cmpStr a.key b.key) blk off size w :=
  fun _ _ _ _ a b => ahead_c a b _

/-- The entries as they stand. -/
def ents0 (ks : List ByteArray) (l : List AV) : List Ent := (ks.zip l).map fun p => ⟨p.1, p.2⟩

theorem cell_spare {w : World} {B n : Nat} {o : Nat} (h : ∀ o, o < n → ∃ v, w.cell? ⟨B, o, none⟩ = some v) (ho : o < n) : ∃ v, w.cell? ⟨B, o, none⟩ = some v := h o ho
theorem info_entry : (Tryd.prog.info? 72).map (fun i => (i.zero, i.size, i.bytes)) = some (some (.agg #[.string ⟨#[]⟩, .int .u8 0, .string ⟨#[]⟩, .slice none 0 0, .slice none 0 0]), 5, 88) := by kernel_rfl

/-- Five cells are stored. -/
def set5 (w : World) (B o : Nat) (a b c d e : Value) : World := ((((w.setCell ⟨B, o, none⟩ a).setCell ⟨B, o + 1, none⟩ b).setCell ⟨B, o + 2, none⟩ c).setCell ⟨B, o + 3, none⟩ d).setCell ⟨B, o + 4, none⟩ e
theorem cell1 {w : World} {B o : Nat} {u v : Value} (h : w.cell? ⟨B, o, none⟩ = some u) (q : Nat) : (w.setCell ⟨B, o, none⟩ v).cell? ⟨B, q, none⟩ = if q = o then some v else w.cell? ⟨B, q, none⟩ := by
  split
  · subst q; exact World.cell?_setCell_same _ _ _ h
  · rename_i hne
    exact World.cell?_setCell_other _ _ _ _ (fun e => hne (by cases e; rfl))
theorem cell5 {w : World} {B o : Nat} {a b c d e : Value} (h : ∀ j, j < 5 → ∃ u, w.cell? ⟨B, o + j, none⟩ = some u) (q : Nat) :
    (set5 w B o a b c d e).cell? ⟨B, q, none⟩ = if q = o + 4 then some e else if q = o + 3 then some d else if q = o + 2 then some c else if q = o + 1 then some b else if q = o then some a else w.cell? ⟨B, q, none⟩ := by
  obtain ⟨u0, h0⟩ := h 0 (by omega)
  obtain ⟨u1, h1⟩ := h 1 (by omega)
  obtain ⟨u2, h2⟩ := h 2 (by omega)
  obtain ⟨u3, h3⟩ := h 3 (by omega)
  obtain ⟨u4, h4⟩ := h 4 (by omega)
  have e0 := cell1 (v := a) h0
  have h1' : (w.setCell ⟨B, o, none⟩ a).cell? ⟨B, o + 1, none⟩ = some u1 := by rw [show (⟨B, o, none⟩ : Addr) = ⟨B, o + 0, none⟩ from rfl, e0, if_neg (by omega)]; exact h1
  have e1 := cell1 (v := b) h1'
  have h2' : ((w.setCell ⟨B, o, none⟩ a).setCell ⟨B, o + 1, none⟩ b).cell? ⟨B, o + 2, none⟩ = some u2 := by rw [e1, if_neg (by omega)]; refine (e0 _).trans ?_; rw [if_neg (by omega)]; exact h2
  have e2 := cell1 (v := c) h2'
  have h3' : (((w.setCell ⟨B, o, none⟩ a).setCell ⟨B, o + 1, none⟩ b).setCell ⟨B, o + 2, none⟩ c).cell? ⟨B, o + 3, none⟩ = some u3 := by rw [e2, if_neg (by omega), e1, if_neg (by omega)]; refine (e0 _).trans ?_; rw [if_neg (by omega)]; exact h3
  have e3 := cell1 (v := d) h3'
  have h4' : ((((w.setCell ⟨B, o, none⟩ a).setCell ⟨B, o + 1, none⟩ b).setCell ⟨B, o + 2, none⟩ c).setCell ⟨B, o + 3, none⟩ d).cell? ⟨B, o + 4, none⟩ = some u4 := by rw [e3, if_neg (by omega), e2, if_neg (by omega), e1, if_neg (by omega)]; refine (e0 _).trans ?_; rw [if_neg (by omega)]; exact h4
  unfold set5
  rw [cell1 h4', e3, e2, e1]
  have := e0 q
  rw [Nat.add_zero] at this
  rw [this]
theorem frozen5 {w : World} {B o : Nat} {a b c d e : Value} (p : Addr) : (set5 w B o a b c d e).frozen? p = w.frozen? p := by simp [set5]
theorem size5 {w : World} {B o : Nat} {a b c d e : Value} : (set5 w B o a b c d e).heap.size = w.heap.size := by simp [set5]
theorem below5 {w W : World} {N B o : Nat} {a b c d e : Value} (h : Below N w W) (hB : N ≤ B) : Below N w (set5 W B o a b c d e) :=
  ((((h.setCell (p := ⟨B, o, none⟩) hB _).setCell (p := ⟨B, o + 1, none⟩) hB _).setCell (p := ⟨B, o + 2, none⟩) hB _).setCell (p := ⟨B, o + 3, none⟩) hB _).setCell (p := ⟨B, o + 4, none⟩) hB _

theorem cmpStr_lt (a b : ByteArray) : (cmpStr a b < 0) ↔ a.toList < b.toList := by
  unfold cmpStr
  rw [bytesLess_eq]
  by_cases h : a.toList < b.toList
  · simp [h]
  · simp only [h, decide_false, Bool.false_eq_true, if_false, iff_false]
    split <;> omega
def keyLt (a b : Ent) : Bool := ltOf (fun a b : Ent => cmpStr a.key b.key) a b
theorem keyLt_iff (a b : Ent) : keyLt a b = true ↔ a.key.toList < b.key.toList := by
  unfold keyLt ltOf
  rw [decide_eq_true_iff, cmpStr_lt]
theorem keyLt_not (a b : Ent) : keyLt a b = false ↔ b.key.toList ≤ a.key.toList := by
  rw [← Bool.not_eq_true, keyLt_iff, List.not_lt]
theorem swo : SWO (ltOf fun a b : Ent => cmpStr a.key b.key) where
  irrefl a := (keyLt_not a a).2 (List.le_refl _)
  trans a b c h1 h2 := (keyLt_iff a c).2 (List.lt_trans ((keyLt_iff a b).1 h1) ((keyLt_iff b c).1 h2))
  ntrans a b c h1 h2 := (keyLt_not a c).2 (List.le_trans ((keyLt_not b c).1 h2) ((keyLt_not a b).1 h1))
theorem isAggE : ∀ w, (isAgg (Tryd.sortE_ren.t 24)).run Tryd.prog w = .ok true w := fun w => by kernel_rfl
theorem sizeE : ∀ w, (Go.sizeOf (Tryd.sortE_ren.t 24)).run Tryd.prog w = .ok 5 w := fun w => by kernel_rfl

/-- The block's cells are of type t. -/
def Knd (w : World) (b : Nat) (t : TypeId) : Prop := ∃ cs, w.heap[b]? = some (.cells cs t (0, 0))
theorem Knd.set {w : World} {b : Nat} {t : TypeId} (h : Knd w b t) (o : Nat) (v : Value) : Knd (w.setCell ⟨b, o, none⟩ v) b t := by
  obtain ⟨cs, h⟩ := h
  exact ⟨_, Go.Joins.block_setCell h v⟩
theorem Knd.set5 {w : World} {b : Nat} {t : TypeId} (h : Knd w b t) (o : Nat) (v1 v2 v3 v4 v5 : Value) : Knd (set5 w b o v1 v2 v3 v4 v5) b t := ((((h.set _ _).set _ _).set _ _).set _ _).set _ _
theorem Knd.below {w w' : World} {b : Nat} {t : TypeId} (h : Knd w b t) (hb : Below w.heap.size w w') : Knd w' b t := by
  obtain ⟨cs, h⟩ := h
  refine ⟨cs, (hb.block b ?_).trans h⟩
  rcases Nat.lt_or_ge b w.heap.size with hlt | hge
  · exact hlt
  · rw [Array.getElem?_eq_none hge] at h; cases h

/-- slices.SortFunc of entries. -/
theorem sortE_c (B n cap : Nat) (d : Array Ent) (w : World) (hn : d.size = n) (hH : HoldsK Ent.enc 5 w B 0 d) (hB : B < w.heap.size) (hsz : n ≤ 1048576) :
    Calls Tryd.prog 64 #[.slice (some ⟨B, 0, none⟩) n cap, .func (.func 48) #[] #[]] w fun e w' => e = .returned (.tuple #[]) ∧
      ∃ L : List Ent, L.Perm d.toList ∧ L.Pairwise (fun a b => a.key.toList ≤ b.key.toList) ∧ SlE Ent.enc 5 w' B (B + 1) (some ⟨B, 0, none⟩) L ∧ Below B w w' ∧ (∀ t, Knd w B t → Knd w' B t) := by
  subst hn
  have eg : ∀ args w, (callFunc 48 args).run Tryd.prog w = .ok (.enter 48 args) w := enters_of Tryd.func48 (by kernel_rfl) rfl
  have hcon := AnyQ.slices_SortFunc Tryd.sortE 5 isAggE sizeE Ent.enc (fun _ => rfl) (fun x v hv => by simp [Ent.enc] at hv; rcases hv with rfl | rfl | rfl | rfl | rfl <;> rfl) _ swo 48 #[] B 0 cap d w eg (cmpLays B 0 d.size w) hH hB (by omega)
  refine hcon.mono ?_
  rintro e w' ⟨rfl, d', n, os, ⟨hs, -, hp⟩, hso, rfl⟩
  have hH' := holdsK_sortWorldK_c Ent.enc 5 w B 0 d d' n os hH hB hs
  have hsize := size_sortWorldK_c Ent.enc 5 w B 0 n d' os
  refine ⟨rfl, d'.toList, ?_, ?_, ?_, ?_, ?_⟩
  · have e1 : d'.extract 0 d.size = d' := by rw [← hs]; exact Array.extract_size
    have e2 : d.extract 0 d.size = d := Array.extract_size
    rw [e1, e2] at hp
    exact hp
  · refine List.pairwise_iff_getElem.2 fun i j hi hj hij => ?_
    have := hso i j (Nat.zero_le _) hij (by simpa [hs] using hj)
    rw [getElem!_pos d' i (by simpa using hi), getElem!_pos d' j (by simpa using hj)] at this
    exact (keyLt_not _ _).1 this
  · intro _
    refine ⟨B, 0, rfl, Nat.le_refl _, by omega, by omega, fun i x hx j u hu => ?_⟩
    have hi : i < d'.size := by have := (List.getElem?_eq_some_iff.1 hx).1; simpa using this
    have hj : j < 5 := (List.getElem?_eq_some_iff.1 hu).1
    have h := (hH'.cell hi hj).1
    have ex : d'[i]! = x := by rw [getElem!_pos d' i hi]; simpa [hi] using hx
    rw [ex] at h
    rw [h]
    have : (x.enc)[j]! = u := by rw [List.getElem!_eq_getElem?_getD, hu]; rfl
    rw [this]
  · have hg : w.grownBy (sortWorldK Ent.enc 5 w B 0 n d' os) (some B) := by
      refine ⟨rfl, rfl, rfl, hsize, fun k hk hne => ?_⟩
      unfold sortWorldK
      rw [heap_grow_old _ _ (by simpa [putRowK] using hk)]
      have : B ≠ k := fun e => hne (by rw [e])
      simp [putRowK, putRow, mapBlock, Sort.ahead, Array.getElem?_modify, this]
    exact below_of_grown hg (Nat.le_of_lt hB) (fun k hk => by cases hk; exact Nat.le_refl _)
  · rintro t ⟨cs, hc⟩
    unfold sortWorldK Knd
    rw [heap_grow_old _ _ (by simpa [putRowK] using hB)]
    exact ⟨putCells id 0 (flatK Ent.enc 5 d') cs, by simp only [putRowK, putRow, mapBlock, Sort.ahead, Array.getElem?_modify, if_true, hc, Option.map_some, onCells]⟩

set_option maxRecDepth 100000 in
set_option maxHeartbeats 3200000 in
theorem entries_t (w : World) (x : AV) (hx : Rd w x) (hw : x.w ≤ 1048576) (hlen : x.l.length = x.ks.length) :
    Calls Tryd.prog 46 #[x.val] w fun e w' => ∃ a c L, e = .returned (.slice a L.length c) ∧ L.Perm (ents0 x.ks x.l) ∧ L.Pairwise (fun a b => a.key.toList ≤ b.key.toList) ∧ SlE Ent.enc 5 w' w.heap.size w'.heap.size a L ∧ Below w.heap.size w w' ∧ ∃ g, a = some ⟨g, 0, none⟩ ∧ w.heap.size ≤ g ∧ Knd w' g 72 := by
  have hll := x.w_l
  have hn : x.ks.length ≤ 1048576 := by have := x.w_ks; omega
  obtain ⟨i0, hi, hz0, hz1, hz2⟩ := info_parts info_entry
  have hmk := fun W => run_make (P := Tryd.prog) W 70 72 i0 _ Tryd.underlying70 hi hz0 .i64 .i64 x.ks.length x.ks.length (by omega) (Int.le_refl _) (by rw [hz2]; omega) (by omega)
  rw [hz1, Int.toNat_natCast] at hmk
  obtain ⟨mc, hmc⟩ : ∃ mc, mc = madeCells (Value.agg #[.string ⟨#[]⟩, .int .u8 0, .string ⟨#[]⟩, .slice none 0 0, .slice none 0 0]).cells (x.ks.length * 5) := ⟨_, rfl⟩
  rw [← hmc] at hmk
  have hms : mc.size = x.ks.length * 5 := by rw [hmc]; simp [madeCells]
  clear hmc hi hz0 hz1 hz2
  have hl := Lib.hid hlen
  have hms' := Lib.hid hms
  clear hlen hms
  go_enter Tryd.func46, Tryd.ntmps46
  go_wp2_with fail
  go_loopw [4, 5, 13] (fun _ _ i wr => ∃ k : Nat, k ≤ x.ks.length ∧ i = .int .i64 k ∧ (∀ i e, i < k → (ents0 x.ks x.l)[i]? = some e → Cells wr (w.heap.size + 1) (i * 5) e.enc) ∧
    (∀ o, o < x.ks.length * 5 → ∃ v, wr.cell? ⟨w.heap.size + 1, o, none⟩ = some v) ∧ (∀ o, wr.frozen? ⟨w.heap.size + 1, o, none⟩ = false) ∧ wr.heap.size = w.heap.size + 2 ∧ Below (w.heap.size + 1) (w.alloc (.cells x.enc.toArray 26)) wr ∧ Knd wr (w.heap.size + 1) 72) (fun _ _ i _ => x.ks.length - (intOf i).toNat)
  case atStart =>
    refine ⟨0, Nat.zero_le _, rfl, fun i e h => absurd h (by omega), fun o ho => ?_, fun o => ?_, by simp, (Below.refl _ _).alloc (by simp) _, ?_⟩
    · have h := heap_alloc_new (w.alloc (.cells #[.int .u8 x.k, .string x.t, .slice x.la x.l.length x.lc, .slice x.ka x.ks.length x.kc] 26)) (.cells mc 72)
      rw [World.size_alloc] at h
      have := hms'.out
      exact ⟨mc[o]'(by omega), by simp only [World.cell?, h]; simp [this, ho]⟩
    · have h := heap_alloc_new (w.alloc (.cells #[.int .u8 x.k, .string x.t, .slice x.la x.l.length x.lc, .slice x.ka x.ks.length x.kc] 26)) (.cells mc 72)
      rw [World.size_alloc] at h
      simp only [World.frozen?, h]; simp
    · have h := heap_alloc_new (w.alloc (.cells #[.int .u8 x.k, .string x.t, .slice x.la x.l.length x.lc, .slice x.ka x.ks.length x.kc] 26)) (.cells mc 72)
      rw [World.size_alloc] at h
      exact ⟨_, h⟩
  case round =>
    obtain ⟨k, hk, rfl, hcs, hsp, hfz, hsz, hbw, hkn⟩ := hrel
    have HKN := Lib.hid hkn
    clear hkn
    have hbox : wr.heap[w.heap.size]? = some (.cells x.enc.toArray 26 (0, 0)) := (hbw.block w.heap.size (by omega)).trans (heap_alloc_new w _)
    obtain ⟨q0, q1, q2, q3, -, -, -, -⟩ := vbox4 hbox
    clear hbox
    by_cases hlt : k < x.ks.length
    · have hks : x.ks[k]? = some x.ks[k] := List.getElem?_eq_getElem hlt
      have hlk : k < x.l.length := by have := hl.out; omega
      have hls : x.l[k]? = some x.l[k] := List.getElem?_eq_getElem hlk
      have hent : (ents0 x.ks x.l)[k]? = some ⟨x.ks[k], x.l[k]⟩ := by unfold ents0; rw [List.getElem?_map, (List.getElem?_zip_eq_some (z := (x.ks[k], x.l[k]))).2 ⟨hks, hls⟩]; rfl
      generalize x.ks[k] = s at *
      generalize x.l[k] = y at *
      obtain ⟨b, off, hka, -, hb1, hb2, h0⟩ := key_at hx.keys hks
      obtain ⟨c, off', hla, -, hc1, hc2, g0, g1, g2, g3⟩ := vals_at hx.sl hls
      have hw0 : Below w.heap.size w wr := ((Below.refl w.heap.size w).alloc (Nat.le_refl _) _).trans (hbw.mono (by omega))
      rw [← hw0.cell (p := ⟨_, _, none⟩) hb2] at h0
      rw [← hw0.cell (p := ⟨_, _, none⟩) hc2] at g0 g1 g2 g3
      rw [hka] at q3
      rw [hla] at q2
      obtain ⟨v0, d0⟩ := hsp (k * 5) (by omega)
      obtain ⟨v1, d1⟩ := hsp (k * 5 + 1) (by omega)
      obtain ⟨v2, d2⟩ := hsp (k * 5 + 2) (by omega)
      obtain ⟨v3, d3⟩ := hsp (k * 5 + 3) (by omega)
      obtain ⟨v4, d4⟩ := hsp (k * 5 + 4) (by omega)
      have f0 := hfz (k * 5)
      have f1 := hfz (k * 5 + 1)
      have f2 := hfz (k * 5 + 2)
      have f3 := hfz (k * 5 + 3)
      have f4 := hfz (k * 5 + 4)
      have hbb : b < wr.heap.size := by omega
      have hcc : c < wr.heap.size := by omega
      have i1 : (k : Int) < x.ks.length := by omega
      have i2 : (k : Int) < x.l.length := by omega
      have HS := Lib.hid hsp
      have HF := Lib.hid hfz
      have HC := Lib.hid hcs
      have HE := Lib.hid hent
      have HZ := Lib.hid hsz
      have HX := Lib.hid hx
      rw [hka]
      clear hsp hfz hcs hent hsz hx hks hls hka hla hmk
      go_wp2_with fail
      have h5 : ∀ j, j < 5 → ∃ u, wr.cell? ⟨w.heap.size + 1, k * 5 + j, none⟩ = some u := fun j hj => HS.out _ (by omega)
      have e5 := cell5 (a := .string s) (b := .int .u8 y.k) (c := .string y.t) (d := .slice y.la y.l.length y.lc) (e := .slice y.ka y.ks.length y.kc) h5
      refine ⟨⟨k + 1, by omega, by go_num, fun i e hi he j u hu => ?_, fun o ho => ?_, fun o => ?_, ?_, ?_, ?_⟩, by simp [intOf]; omega⟩
      · show (set5 wr (w.heap.size + 1) (k * 5) _ _ _ _ _).cell? _ = _
        rw [e5]
        have hj : j < 5 := (List.getElem?_eq_some_iff.1 hu).1
        by_cases hik : i = k
        · subst hik
          rw [HE.out] at he
          cases he
          match j, hj with
          | 0, _ => simp [Ent.enc] at hu; simp [hu]
          | 1, _ => simp [Ent.enc] at hu; simp [hu]
          | 2, _ => simp [Ent.enc] at hu; simp [hu]
          | 3, _ => simp [Ent.enc] at hu; simp [hu]
          | 4, _ => simp [Ent.enc] at hu; simp [hu]
        · have : i * 5 + j < k * 5 := by omega
          rw [if_neg (by omega), if_neg (by omega), if_neg (by omega), if_neg (by omega), if_neg (by omega)]
          exact HC.out i e (by omega) he j u hu
      · show ∃ v, (set5 wr (w.heap.size + 1) (k * 5) _ _ _ _ _).cell? _ = _
        rw [e5]
        have := HS.out o ho
        repeat (first | exact this | (split; exact ⟨_, rfl⟩))
      · exact (frozen5 (w := wr) _).trans (HF.out o)
      · exact (size5 (w := wr)).trans HZ.out
      · exact below5 hbw (Nat.le_refl _)
      · exact HKN.out.set5 _ _ _ _ _ _
    · obtain rfl : k = x.ks.length := by omega
      have hlen0 : (ents0 x.ks x.l).length = x.ks.length := by have := hl.out; simp [ents0, this]
      have hH : HoldsK Ent.enc 5 wr (w.heap.size + 1) 0 (ents0 x.ks x.l).toArray := fun j hj => by
        rw [size_flatK, List.size_toArray] at hj
        refine ⟨?_, hfz _⟩
        rw [get_flatK _ _ _ _ (by simpa using hj)]
        have hd : j / 5 < (ents0 x.ks x.l).length := (Nat.div_lt_iff_lt_mul (by omega)).2 hj
        have hm : j % 5 < 5 := Nat.mod_lt _ (by omega)
        have hx := List.getElem?_eq_getElem hd
        have hu : ((ents0 x.ks x.l)[j / 5]).enc[j % 5]? = some (((ents0 x.ks x.l)[j / 5]).enc[j % 5]'hm) := List.getElem?_eq_getElem hm
        have := hcs (j / 5) _ (by omega) hx _ _ hu
        rw [show 0 + j = j / 5 * 5 + j % 5 by omega, this]
        rw [getElem!_pos (ents0 x.ks x.l).toArray (j / 5) (by simpa using hd), List.getElem_toArray, getElem!_pos _ (j % 5) hm]
        rfl
      have hcon := fun n => sortE_c (w.heap.size + 1) x.ks.length x.ks.length (ents0 x.ks x.l).toArray (wr.drewN n) (by simpa using hlen0) hH (by show _ < wr.heap.size; omega) hn
      have hc0 := Lib.hid (hcon 0)
      have hw0 : Below w.heap.size w wr := ((Below.refl w.heap.size w).alloc (Nat.le_refl _) _).trans (hbw.mono (by omega))
      clear hcs hsp hfz hH hcon hmk
      go_wp2_with (go_at_call 64; refine hc0.out.mono ?_; rintro e w2 ⟨rfl, L, hp, hso, hsl, hb, hkk⟩)
      have hLl : L.length = x.ks.length := by rw [hp.length_eq]; simpa using hlen0
      have hz2 := hb.size
      have hz3 : w.heap.size + 2 ≤ w2.heap.size := by rw [← hsz]; exact hz2
      go_ret
      refine ⟨some ⟨w.heap.size + 1, 0, none⟩, x.ks.length, L, by rw [hLl]; rfl, hp, hso, hsl.widen (by omega) (by omega), hw0.trans (hb.mono (by omega)), w.heap.size + 1, rfl, by omega, hkk _ HKN.out⟩
theorem entries_c (w : World) (x : AV) (hx : Rd w x) (hw : x.w ≤ 1048576) (hlen : x.l.length = x.ks.length) :
    Calls Tryd.prog 46 #[x.val] w fun e w' => ∃ a c L, e = .returned (.slice a L.length c) ∧ L.Perm (ents0 x.ks x.l) ∧ L.Pairwise (fun a b => a.key.toList ≤ b.key.toList) ∧ SlE Ent.enc 5 w' w.heap.size w'.heap.size a L ∧ Below w.heap.size w w' :=
  (entries_t w x hx hw hlen).mono fun _ _ ⟨a, c, L, h1, h2, h3, h4, h5, _⟩ => ⟨a, c, L, h1, h2, h3, h4, h5⟩
end Go.Proofs.YtcpdogjcofkpcaaDoor
