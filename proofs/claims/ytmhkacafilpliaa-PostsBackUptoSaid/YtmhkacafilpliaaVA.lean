/-
  values.entries: a map's entries, by keys. Conditions: the tree lies in memory, its weight is bounded, it has as many keys as parts, all keys unlike.
  slices.CompareFunc at values and at entries, cmp.Compare of kinds. Conditions: the lists read as data, with bounded lengths; the function that compares has its contract.
  The order of values, as a plain function; what slices.SortFunc gave is the one sorted list of a map's entries. Conditions: the keys are all unlike.
  values.compare$1: an entry's key, then its value. Conditions: the values' comparison has its contract.
-/
import Derived.Test.YtmhkacafilpliaaV5
import Derived.Test.YtmhkacafilpliaaP3
import Derived.Test.YtmhkacafilpliaaShelf3
import Derived.Lib.SmallJoins
import Derived.Lib.AppendIntMem
namespace Go.Proofs.Ytmhkacafilpliaa
open Go.RowKit Go.Sort Go.Shelf

/-- An entry, as it lies. -/
structure Ent where
  key : ByteArray
  x : AV
instance : Inhabited AV := ⟨⟨0, ⟨#[]⟩, none, 0, [], none, 0, []⟩⟩
instance : Inhabited Ent := ⟨⟨⟨#[]⟩, default⟩⟩
def Ent.enc (e : Ent) : List Value := [.string e.key, .int .u8 e.x.k, .string e.x.t, .slice e.x.la e.x.l.length e.x.lc, .slice e.x.ka e.x.ks.length e.x.kc]
abbrev Ent.val (e : Ent) : Value := .agg #[.string e.key, .int .u8 e.x.k, .string e.x.t, .slice e.x.la e.x.l.length e.x.lc, .slice e.x.ka e.x.ks.length e.x.kc]

set_option maxHeartbeats 1600000 in
theorem ahead_c (a b : Ent) (W : World) : Calls Try.prog 82 #[a.val, b.val] W fun e w' => e = .returned (.int .i64 (cmpStr a.key b.key)) ∧ ∃ q os, w' = grow (W.drewN q) os := by
  have hcon := fun W' => Lib.hid (cmp_s W' a.key b.key)
  go_enter Try.func82, Try.ntmps82
  go_wp2_with (go_at_call 77; refine (hcon _).out.mono ?_; rintro e w' ⟨rfl, rfl⟩)
  go_ret
  exact ⟨rfl, 0, _, by rw [alloc_eq_grow, alloc_eq_grow, grow_grow]; rfl⟩

theorem cmpLays (blk off size : Nat) (w : World) : CmpLays Try.prog 82 #[] Ent.enc 5 (fun a b => cmpStr a.key b.key) blk off size w :=
  fun _ _ _ _ a b => ahead_c a b _

/-- The entries as they stand. -/
def ents0 (ks : List ByteArray) (l : List AV) : List Ent := (ks.zip l).map fun p => ⟨p.1, p.2⟩

theorem cell_spare {w : World} {B n : Nat} {o : Nat} (h : ∀ o, o < n → ∃ v, w.cell? ⟨B, o, none⟩ = some v) (ho : o < n) : ∃ v, w.cell? ⟨B, o, none⟩ = some v := h o ho
theorem info_entry : (Try.prog.info? 113).map (fun i => (i.zero, i.size, i.bytes)) = some (some (.agg #[.string ⟨#[]⟩, .int .u8 0, .string ⟨#[]⟩, .slice none 0 0, .slice none 0 0]), 5, 88) := by kernel_rfl

/-- Five cells are stored. -/
def set5 (w : World) (B o : Nat) (a b c d e : Value) : World := ((((w.setCell ⟨B, o, none⟩ a).setCell ⟨B, o + 1, none⟩ b).setCell ⟨B, o + 2, none⟩ c).setCell ⟨B, o + 3, none⟩ d).setCell ⟨B, o + 4, none⟩ e
theorem cell1 {w : World} {B o : Nat} {u v : Value} (h : w.cell? ⟨B, o, none⟩ = some u) (q : Nat) : (w.setCell ⟨B, o, none⟩ v).cell? ⟨B, q, none⟩ = if q = o then some v else w.cell? ⟨B, q, none⟩ := by
  split
  · subst q; exact World.cell?_setCell_same _ _ _ h
  · rename_i hne
    exact World.cell?_setCell_other _ _ _ _ (fun e => hne (by cases e; rfl))
theorem cell5 {w : World} {B o : Nat} {a b c d e : Value} (h : ∀ j, j < 5 → ∃ u, w.cell? ⟨B, o + j, none⟩ = some u) (q : Nat) :
    (set5 w B o a b c d e).cell? ⟨B, q, none⟩ = if q = o + 4 then some e else if q = o + 3 then some d else if q = o + 2 then some c else if q = o + 1 then some b else if q = o then some a else w.cell? ⟨B, q, none⟩ := by
  obtain ⟨u0, h0⟩ := h 0 (by omega)
  obtain ⟨u1, h1⟩ := h 1 (by omega)
  obtain ⟨u2, h2⟩ := h 2 (by omega)
  obtain ⟨u3, h3⟩ := h 3 (by omega)
  obtain ⟨u4, h4⟩ := h 4 (by omega)
  have e0 := cell1 (v := a) h0
  have h1' : (w.setCell ⟨B, o, none⟩ a).cell? ⟨B, o + 1, none⟩ = some u1 := by rw [show (⟨B, o, none⟩ : Addr) = ⟨B, o + 0, none⟩ from rfl, e0, if_neg (by omega)]; exact h1
  have e1 := cell1 (v := b) h1'
  have h2' : ((w.setCell ⟨B, o, none⟩ a).setCell ⟨B, o + 1, none⟩ b).cell? ⟨B, o + 2, none⟩ = some u2 := by rw [e1, if_neg (by omega)]; refine (e0 _).trans ?_; rw [if_neg (by omega)]; exact h2
  have e2 := cell1 (v := c) h2'
  have h3' : (((w.setCell ⟨B, o, none⟩ a).setCell ⟨B, o + 1, none⟩ b).setCell ⟨B, o + 2, none⟩ c).cell? ⟨B, o + 3, none⟩ = some u3 := by rw [e2, if_neg (by omega), e1, if_neg (by omega)]; refine (e0 _).trans ?_; rw [if_neg (by omega)]; exact h3
  have e3 := cell1 (v := d) h3'
  have h4' : ((((w.setCell ⟨B, o, none⟩ a).setCell ⟨B, o + 1, none⟩ b).setCell ⟨B, o + 2, none⟩ c).setCell ⟨B, o + 3, none⟩ d).cell? ⟨B, o + 4, none⟩ = some u4 := by rw [e3, if_neg (by omega), e2, if_neg (by omega), e1, if_neg (by omega)]; refine (e0 _).trans ?_; rw [if_neg (by omega)]; exact h4
  unfold set5
  rw [cell1 h4', e3, e2, e1]
  have := e0 q
  rw [Nat.add_zero] at this
  rw [this]
theorem frozen5 {w : World} {B o : Nat} {a b c d e : Value} (p : Addr) : (set5 w B o a b c d e).frozen? p = w.frozen? p := by simp [set5]
theorem size5 {w : World} {B o : Nat} {a b c d e : Value} : (set5 w B o a b c d e).heap.size = w.heap.size := by simp [set5]
theorem below5 {w W : World} {N B o : Nat} {a b c d e : Value} (h : Below N w W) (hB : N ≤ B) : Below N w (set5 W B o a b c d e) :=
  ((((h.setCell (p := ⟨B, o, none⟩) hB _).setCell (p := ⟨B, o + 1, none⟩) hB _).setCell (p := ⟨B, o + 2, none⟩) hB _).setCell (p := ⟨B, o + 3, none⟩) hB _).setCell (p := ⟨B, o + 4, none⟩) hB _

theorem cmpStr_lt (a b : ByteArray) : (cmpStr a b < 0) ↔ a.toList < b.toList := by
  unfold cmpStr
  rw [bytesLess_eq]
  by_cases h : a.toList < b.toList
  · simp [h]
  · simp only [h, decide_false, Bool.false_eq_true, if_false, iff_false]
    split <;> omega
def keyLt (a b : Ent) : Bool := ltOf (fun a b : Ent => cmpStr a.key b.key) a b
theorem keyLt_iff (a b : Ent) : keyLt a b = true ↔ a.key.toList < b.key.toList := by
  unfold keyLt ltOf
  rw [decide_eq_true_iff, cmpStr_lt]
theorem keyLt_not (a b : Ent) : keyLt a b = false ↔ b.key.toList ≤ a.key.toList := by
  rw [← Bool.not_eq_true, keyLt_iff, List.not_lt]
theorem swo : SWO (ltOf fun a b : Ent => cmpStr a.key b.key) where
  irrefl a := (keyLt_not a a).2 (List.le_refl _)
  trans a b c h1 h2 := (keyLt_iff a c).2 (List.lt_trans ((keyLt_iff a b).1 h1) ((keyLt_iff b c).1 h2))
  ntrans a b c h1 h2 := (keyLt_not a c).2 (List.le_trans ((keyLt_not b c).1 h2) ((keyLt_not a b).1 h1))
theorem isAggE : ∀ w, (isAgg (Try.sortE_ren.t 24)).run Try.prog w = .ok true w := fun w => by kernel_rfl
theorem sizeE : ∀ w, (Go.sizeOf (Try.sortE_ren.t 24)).run Try.prog w = .ok 5 w := fun w => by kernel_rfl

/-- The block's cells are of type t. -/
def Knd (w : World) (b : Nat) (t : TypeId) : Prop := ∃ cs, w.heap[b]? = some (.cells cs t (0, 0))
theorem Knd.set {w : World} {b : Nat} {t : TypeId} (h : Knd w b t) (o : Nat) (v : Value) : Knd (w.setCell ⟨b, o, none⟩ v) b t := by
  obtain ⟨cs, h⟩ := h
  exact ⟨_, Go.Joins.block_setCell h v⟩
theorem Knd.set5 {w : World} {b : Nat} {t : TypeId} (h : Knd w b t) (o : Nat) (v1 v2 v3 v4 v5 : Value) : Knd (set5 w b o v1 v2 v3 v4 v5) b t := ((((h.set _ _).set _ _).set _ _).set _ _).set _ _
theorem Knd.below {w w' : World} {b : Nat} {t : TypeId} (h : Knd w b t) (hb : Below w.heap.size w w') : Knd w' b t := by
  obtain ⟨cs, h⟩ := h
  refine ⟨cs, (hb.block b ?_).trans h⟩
  rcases Nat.lt_or_ge b w.heap.size with hlt | hge
  · exact hlt
  · rw [Array.getElem?_eq_none hge] at h; cases h

/-- slices.SortFunc of entries. -/
theorem sortE_c (B n cap : Nat) (d : Array Ent) (w : World) (hn : d.size = n) (hH : HoldsK Ent.enc 5 w B 0 d) (hB : B < w.heap.size) (hsz : n ≤ 1048576) :
    Calls Try.prog 90 #[.slice (some ⟨B, 0, none⟩) n cap, .func (.func 82) #[] #[]] w fun e w' => e = .returned (.tuple #[]) ∧
      ∃ L : List Ent, L.Perm d.toList ∧ L.Pairwise (fun a b => a.key.toList ≤ b.key.toList) ∧ SlE Ent.enc 5 w' B (B + 1) (some ⟨B, 0, none⟩) L ∧ Below B w w' ∧ (∀ t, Knd w B t → Knd w' B t) := by
  subst hn
  have eg : ∀ args w, (callFunc 82 args).run Try.prog w = .ok (.enter 82 args) w := enters_of Try.func82 (by kernel_rfl) rfl
  have hcon := AnyQ.slices_SortFunc Try.sortE 5 isAggE sizeE Ent.enc (fun _ => rfl) (fun x v hv => by simp [Ent.enc] at hv; rcases hv with rfl | rfl | rfl | rfl | rfl <;> rfl) _ swo 82 #[] B 0 cap d w eg (cmpLays B 0 d.size w) hH hB (by omega)
  refine hcon.mono ?_
  rintro e w' ⟨rfl, d', n, os, ⟨hs, -, hp⟩, hso, rfl⟩
  have hH' := holdsK_sortWorldK_c Ent.enc 5 w B 0 d d' n os hH hB hs
  have hsize := size_sortWorldK_c Ent.enc 5 w B 0 n d' os
  refine ⟨rfl, d'.toList, ?_, ?_, ?_, ?_, ?_⟩
  · have e1 : d'.extract 0 d.size = d' := by rw [← hs]; exact Array.extract_size
    have e2 : d.extract 0 d.size = d := Array.extract_size
    rw [e1, e2] at hp
    exact hp
  · refine List.pairwise_iff_getElem.2 fun i j hi hj hij => ?_
    have := hso i j (Nat.zero_le _) hij (by simpa [hs] using hj)
    rw [getElem!_pos d' i (by simpa using hi), getElem!_pos d' j (by simpa using hj)] at this
    exact (keyLt_not _ _).1 this
  · intro _
    refine ⟨B, 0, rfl, Nat.le_refl _, by omega, by omega, fun i x hx j u hu => ?_⟩
    have hi : i < d'.size := by have := (List.getElem?_eq_some_iff.1 hx).1; simpa using this
    have hj : j < 5 := (List.getElem?_eq_some_iff.1 hu).1
    have h := (hH'.cell hi hj).1
    have ex : d'[i]! = x := by rw [getElem!_pos d' i hi]; simpa [hi] using hx
    rw [ex] at h
    rw [h]
    have : (x.enc)[j]! = u := by rw [List.getElem!_eq_getElem?_getD, hu]; rfl
    rw [this]
  · have hg : w.grownBy (sortWorldK Ent.enc 5 w B 0 n d' os) (some B) := by
      refine ⟨rfl, rfl, rfl, hsize, fun k hk hne => ?_⟩
      unfold sortWorldK
      rw [heap_grow_old _ _ (by simpa [putRowK] using hk)]
      have : B ≠ k := fun e => hne (by rw [e])
      simp [putRowK, putRow, mapBlock, Sort.ahead, Array.getElem?_modify, this]
    exact below_of_grown hg (Nat.le_of_lt hB) (fun k hk => by cases hk; exact Nat.le_refl _)
  · rintro t ⟨cs, hc⟩
    unfold sortWorldK Knd
    rw [heap_grow_old _ _ (by simpa [putRowK] using hB)]
    exact ⟨putCells id 0 (flatK Ent.enc 5 d') cs, by simp only [putRowK, putRow, mapBlock, Sort.ahead, Array.getElem?_modify, if_true, hc, Option.map_some, onCells]⟩

set_option maxRecDepth 100000 in
set_option maxHeartbeats 3200000 in
theorem entries_t (w : World) (x : AV) (hx : Rd w x) (hw : x.w ≤ 1048576) (hlen : x.l.length = x.ks.length) :
    Calls Try.prog 80 #[x.val] w fun e w' => ∃ a c L, e = .returned (.slice a L.length c) ∧ L.Perm (ents0 x.ks x.l) ∧ L.Pairwise (fun a b => a.key.toList ≤ b.key.toList) ∧ SlE Ent.enc 5 w' w.heap.size w'.heap.size a L ∧ Below w.heap.size w w' ∧ ∃ g, a = some ⟨g, 0, none⟩ ∧ w.heap.size ≤ g ∧ Knd w' g 113 := by
  have hll := x.w_l
  have hn : x.ks.length ≤ 1048576 := by have := x.w_ks; omega
  obtain ⟨i0, hi, hz0, hz1, hz2⟩ := info_parts info_entry
  have hmk := fun W => run_make (P := Try.prog) W 111 113 i0 _ Try.underlying111 hi hz0 .i64 .i64 x.ks.length x.ks.length (by omega) (Int.le_refl _) (by rw [hz2]; omega) (by omega)
  rw [hz1, Int.toNat_natCast] at hmk
  obtain ⟨mc, hmc⟩ : ∃ mc, mc = madeCells (Value.agg #[.string ⟨#[]⟩, .int .u8 0, .string ⟨#[]⟩, .slice none 0 0, .slice none 0 0]).cells (x.ks.length * 5) := ⟨_, rfl⟩
  rw [← hmc] at hmk
  have hms : mc.size = x.ks.length * 5 := by rw [hmc]; simp [madeCells]
  clear hmc hi hz0 hz1 hz2
  have hl := Lib.hid hlen
  have hms' := Lib.hid hms
  clear hlen hms
  go_enter Try.func80, Try.ntmps80
  go_wp2_with fail
  go_loopw [4, 5, 13] (fun _ _ i wr => ∃ k : Nat, k ≤ x.ks.length ∧ i = .int .i64 k ∧ (∀ i e, i < k → (ents0 x.ks x.l)[i]? = some e → Cells wr (w.heap.size + 1) (i * 5) e.enc) ∧
    (∀ o, o < x.ks.length * 5 → ∃ v, wr.cell? ⟨w.heap.size + 1, o, none⟩ = some v) ∧ (∀ o, wr.frozen? ⟨w.heap.size + 1, o, none⟩ = false) ∧ wr.heap.size = w.heap.size + 2 ∧ Below (w.heap.size + 1) (w.alloc (.cells x.enc.toArray 26)) wr ∧ Knd wr (w.heap.size + 1) 113) (fun _ _ i _ => x.ks.length - (intOf i).toNat)
  case atStart =>
    refine ⟨0, Nat.zero_le _, rfl, fun i e h => absurd h (by omega), fun o ho => ?_, fun o => ?_, by simp, (Below.refl _ _).alloc (by simp) _, ?_⟩
    · have h := heap_alloc_new (w.alloc (.cells #[.int .u8 x.k, .string x.t, .slice x.la x.l.length x.lc, .slice x.ka x.ks.length x.kc] 26)) (.cells mc 113)
      rw [World.size_alloc] at h
      have := hms'.out
      exact ⟨mc[o]'(by omega), by simp only [World.cell?, h]; simp [this, ho]⟩
    · have h := heap_alloc_new (w.alloc (.cells #[.int .u8 x.k, .string x.t, .slice x.la x.l.length x.lc, .slice x.ka x.ks.length x.kc] 26)) (.cells mc 113)
      rw [World.size_alloc] at h
      simp only [World.frozen?, h]; simp
    · have h := heap_alloc_new (w.alloc (.cells #[.int .u8 x.k, .string x.t, .slice x.la x.l.length x.lc, .slice x.ka x.ks.length x.kc] 26)) (.cells mc 113)
      rw [World.size_alloc] at h
      exact ⟨_, h⟩
  case round =>
    obtain ⟨k, hk, rfl, hcs, hsp, hfz, hsz, hbw, hkn⟩ := hrel
    have HKN := Lib.hid hkn
    clear hkn
    have hbox : wr.heap[w.heap.size]? = some (.cells x.enc.toArray 26 (0, 0)) := (hbw.block w.heap.size (by omega)).trans (heap_alloc_new w _)
    obtain ⟨q0, q1, q2, q3, -, -, -, -⟩ := vbox4 hbox
    clear hbox
    by_cases hlt : k < x.ks.length
    · have hks : x.ks[k]? = some x.ks[k] := List.getElem?_eq_getElem hlt
      have hlk : k < x.l.length := by have := hl.out; omega
      have hls : x.l[k]? = some x.l[k] := List.getElem?_eq_getElem hlk
      have hent : (ents0 x.ks x.l)[k]? = some ⟨x.ks[k], x.l[k]⟩ := by unfold ents0; rw [List.getElem?_map, (List.getElem?_zip_eq_some (z := (x.ks[k], x.l[k]))).2 ⟨hks, hls⟩]; rfl
      generalize x.ks[k] = s at *
      generalize x.l[k] = y at *
      obtain ⟨b, off, hka, -, hb1, hb2, h0⟩ := key_at hx.keys hks
      obtain ⟨c, off', hla, -, hc1, hc2, g0, g1, g2, g3⟩ := vals_at hx.sl hls
      have hw0 : Below w.heap.size w wr := ((Below.refl w.heap.size w).alloc (Nat.le_refl _) _).trans (hbw.mono (by omega))
      rw [← hw0.cell (p := ⟨_, _, none⟩) hb2] at h0
      rw [← hw0.cell (p := ⟨_, _, none⟩) hc2] at g0 g1 g2 g3
      rw [hka] at q3
      rw [hla] at q2
      obtain ⟨v0, d0⟩ := hsp (k * 5) (by omega)
      obtain ⟨v1, d1⟩ := hsp (k * 5 + 1) (by omega)
      obtain ⟨v2, d2⟩ := hsp (k * 5 + 2) (by omega)
      obtain ⟨v3, d3⟩ := hsp (k * 5 + 3) (by omega)
      obtain ⟨v4, d4⟩ := hsp (k * 5 + 4) (by omega)
      have f0 := hfz (k * 5)
      have f1 := hfz (k * 5 + 1)
      have f2 := hfz (k * 5 + 2)
      have f3 := hfz (k * 5 + 3)
      have f4 := hfz (k * 5 + 4)
      have hbb : b < wr.heap.size := by omega
      have hcc : c < wr.heap.size := by omega
      have i1 : (k : Int) < x.ks.length := by omega
      have i2 : (k : Int) < x.l.length := by omega
      have HS := Lib.hid hsp
      have HF := Lib.hid hfz
      have HC := Lib.hid hcs
      have HE := Lib.hid hent
      have HZ := Lib.hid hsz
      have HX := Lib.hid hx
      rw [hka]
      clear hsp hfz hcs hent hsz hx hks hls hka hla hmk
      go_wp2_with fail
      have h5 : ∀ j, j < 5 → ∃ u, wr.cell? ⟨w.heap.size + 1, k * 5 + j, none⟩ = some u := fun j hj => HS.out _ (by omega)
      have e5 := cell5 (a := .string s) (b := .int .u8 y.k) (c := .string y.t) (d := .slice y.la y.l.length y.lc) (e := .slice y.ka y.ks.length y.kc) h5
      refine ⟨⟨k + 1, by omega, by go_num, fun i e hi he j u hu => ?_, fun o ho => ?_, fun o => ?_, ?_, ?_, ?_⟩, by simp [intOf]; omega⟩
      · show (set5 wr (w.heap.size + 1) (k * 5) _ _ _ _ _).cell? _ = _
        rw [e5]
        have hj : j < 5 := (List.getElem?_eq_some_iff.1 hu).1
        by_cases hik : i = k
        · subst hik
          rw [HE.out] at he
          cases he
          match j, hj with
          | 0, _ => simp [Ent.enc] at hu; simp [hu]
          | 1, _ => simp [Ent.enc] at hu; simp [hu]
          | 2, _ => simp [Ent.enc] at hu; simp [hu]
          | 3, _ => simp [Ent.enc] at hu; simp [hu]
          | 4, _ => simp [Ent.enc] at hu; simp [hu]
        · have : i * 5 + j < k * 5 := by omega
          rw [if_neg (by omega), if_neg (by omega), if_neg (by omega), if_neg (by omega), if_neg (by omega)]
          exact HC.out i e (by omega) he j u hu
      · show ∃ v, (set5 wr (w.heap.size + 1) (k * 5) _ _ _ _ _).cell? _ = _
        rw [e5]
        have := HS.out o ho
        repeat (first | exact this | (split; exact ⟨_, rfl⟩))
      · exact (frozen5 (w := wr) _).trans (HF.out o)
      · exact (size5 (w := wr)).trans HZ.out
      · exact below5 hbw (Nat.le_refl _)
      · exact HKN.out.set5 _ _ _ _ _ _
    · obtain rfl : k = x.ks.length := by omega
      have hlen0 : (ents0 x.ks x.l).length = x.ks.length := by have := hl.out; simp [ents0, this]
      have hH : HoldsK Ent.enc 5 wr (w.heap.size + 1) 0 (ents0 x.ks x.l).toArray := fun j hj => by
        rw [size_flatK, List.size_toArray] at hj
        refine ⟨?_, hfz _⟩
        rw [get_flatK _ _ _ _ (by simpa using hj)]
        have hd : j / 5 < (ents0 x.ks x.l).length := (Nat.div_lt_iff_lt_mul (by omega)).2 hj
        have hm : j % 5 < 5 := Nat.mod_lt _ (by omega)
        have hx := List.getElem?_eq_getElem hd
        have hu : ((ents0 x.ks x.l)[j / 5]).enc[j % 5]? = some (((ents0 x.ks x.l)[j / 5]).enc[j % 5]'hm) := List.getElem?_eq_getElem hm
        have := hcs (j / 5) _ (by omega) hx _ _ hu
        rw [show 0 + j = j / 5 * 5 + j % 5 by omega, this]
        rw [getElem!_pos (ents0 x.ks x.l).toArray (j / 5) (by simpa using hd), List.getElem_toArray, getElem!_pos _ (j % 5) hm]
        rfl
      have hcon := fun n => sortE_c (w.heap.size + 1) x.ks.length x.ks.length (ents0 x.ks x.l).toArray (wr.drewN n) (by simpa using hlen0) hH (by show _ < wr.heap.size; omega) hn
      have hc0 := Lib.hid (hcon 0)
      have hw0 : Below w.heap.size w wr := ((Below.refl w.heap.size w).alloc (Nat.le_refl _) _).trans (hbw.mono (by omega))
      clear hcs hsp hfz hH hcon hmk
      go_wp2_with (go_at_call 90; refine hc0.out.mono ?_; rintro e w2 ⟨rfl, L, hp, hso, hsl, hb, hkk⟩)
      have hLl : L.length = x.ks.length := by rw [hp.length_eq]; simpa using hlen0
      have hz2 := hb.size
      have hz3 : w.heap.size + 2 ≤ w2.heap.size := by rw [← hsz]; exact hz2
      go_ret
      refine ⟨some ⟨w.heap.size + 1, 0, none⟩, x.ks.length, L, by rw [hLl]; rfl, hp, hso, hsl.widen (by omega) (by omega), hw0.trans (hb.mono (by omega)), w.heap.size + 1, rfl, by omega, hkk _ HKN.out⟩
theorem entries_c (w : World) (x : AV) (hx : Rd w x) (hw : x.w ≤ 1048576) (hlen : x.l.length = x.ks.length) :
    Calls Try.prog 80 #[x.val] w fun e w' => ∃ a c L, e = .returned (.slice a L.length c) ∧ L.Perm (ents0 x.ks x.l) ∧ L.Pairwise (fun a b => a.key.toList ≤ b.key.toList) ∧ SlE Ent.enc 5 w' w.heap.size w'.heap.size a L ∧ Below w.heap.size w w' :=
  (entries_t w x hx hw hlen).mono fun _ _ ⟨a, c, L, h1, h2, h3, h4, h5, _⟩ => ⟨a, c, L, h1, h2, h3, h4, h5⟩
end Go.Proofs.Ytmhkacafilpliaa

namespace Go.Proofs.Ytmhkacafilpliaa
open Go.RowKit Go.Sort

def cmpL {α : Type} (f : α → α → Int) : List α → List α → Int
  | [], [] => 0
  | [], _ :: _ => -1
  | _ :: _, [] => 1
  | x :: l, y :: m => if f x y = 0 then cmpL f l m else f x y
section
variable {α : Type} {f : α → α → Int}
theorem cmpL_drop : ∀ (k : Nat) (l m : List α), (∀ j x y, j < k → l[j]? = some x → m[j]? = some y → f x y = 0) → k ≤ l.length → k ≤ m.length → cmpL f l m = cmpL f (l.drop k) (m.drop k)
  | 0, _, _, _, _, _ => rfl
  | k + 1, [], _, _, h1, _ => by simp at h1
  | k + 1, _ :: _, [], _, _, h2 => by simp at h2
  | k + 1, x :: l, y :: m, h, h1, h2 => by
    have h0 := h 0 x y (by omega) rfl rfl
    simp only [cmpL, h0, if_true, List.drop_succ_cons]
    exact cmpL_drop k l m (fun j a b hj ha hb => h (j + 1) a b (by omega) (by simpa using ha) (by simpa using hb)) (by simpa using h1) (by simpa using h2)
theorem cmpL_at {l m : List α} {k : Nat} {x y : α} (h : ∀ j x y, j < k → l[j]? = some x → m[j]? = some y → f x y = 0) (hx : l[k]? = some x) (hy : m[k]? = some y) (hne : f x y ≠ 0) : cmpL f l m = f x y := by
  obtain ⟨h1, rfl⟩ := (List.getElem?_eq_some_iff.1 hx)
  obtain ⟨h2, rfl⟩ := (List.getElem?_eq_some_iff.1 hy)
  rw [cmpL_drop k l m h (by omega) (by omega), List.drop_eq_getElem_cons h1, List.drop_eq_getElem_cons h2]
  simp [cmpL, hne]
end

/-- An element of a list of entries, by its cells. -/
theorem ents_at {w : World} {lo hi : Nat} {a : Option Addr} {l : List Ent} (h : SlE Ent.enc 5 w lo hi a l) {k : Nat} {y : Ent} (hk : l[k]? = some y) :
    ∃ b off, a = some ⟨b, off, none⟩ ∧ lo ≤ b ∧ b < hi ∧ b < w.heap.size ∧ w.cell? ⟨b, off + k * 5, none⟩ = some (.string y.key) ∧ w.cell? ⟨b, off + k * 5 + 1, none⟩ = some (.int .u8 y.x.k) ∧ w.cell? ⟨b, off + k * 5 + 2, none⟩ = some (.string y.x.t) ∧
      w.cell? ⟨b, off + k * 5 + 3, none⟩ = some (.slice y.x.la y.x.l.length y.x.lc) ∧ w.cell? ⟨b, off + k * 5 + 4, none⟩ = some (.slice y.x.ka y.x.ks.length y.x.kc) := by
  have hl : k < l.length := (List.getElem?_eq_some_iff.1 hk).1
  obtain ⟨b, off, e, g1, g2, g3, g4⟩ := h (by omega)
  have c := g4 k y hk
  exact ⟨b, off, e, g1, g2, g3, by simpa using c 0 _ rfl, c 1 _ rfl, c 2 _ rfl, c 3 _ rfl, c 4 _ rfl⟩

theorem nan_kd (w : World) (x : Int) : Calls Try.prog 88 #[.int .u8 x] w fun e w' => e = .returned (.bool false) ∧ w = w' := by
  have h : (x != x) = false := by simp
  go_enter Try.func88, Try.ntmps88
  go_wp2_with fail
  go_ret
  exact ⟨rfl, rfl⟩
theorem cmp_kd (w : World) (x y : Int) : Calls Try.prog 76 #[.int .u8 x, .int .u8 y] w fun e w' => e = .returned (.int .i64 (cmpInt x y)) ∧ w = w' := by
  by_cases h1 : x < y
  · rw [show cmpInt x y = -1 by simp [cmpInt, h1]]
    go_enter Try.func76, Try.ntmps76
    go_wp2_with (go_at_call 88; refine (nan_kd _ _).mono ?_; rintro e w1 ⟨rfl, rfl⟩)
    go_ret
    exact ⟨rfl, rfl⟩
  · by_cases h2 : y < x
    · rw [show cmpInt x y = 1 by simp [cmpInt, h1, h2]]
      go_enter Try.func76, Try.ntmps76
      go_wp2_with (go_at_call 88; refine (nan_kd _ _).mono ?_; rintro e w1 ⟨rfl, rfl⟩)
      go_ret
      exact ⟨rfl, rfl⟩
    · rw [show cmpInt x y = 0 by simp [cmpInt, h1, h2]]
      go_enter Try.func76, Try.ntmps76
      go_wp2_with (go_at_call 88; refine (nan_kd _ _).mono ?_; rintro e w1 ⟨rfl, rfl⟩)
      go_ret
      exact ⟨rfl, rfl⟩

set_option maxRecDepth 100000 in
set_option maxHeartbeats 3200000 in
theorem cmpf_v (w : World) (a a' : Option Addr) (cap cap' : Nat) (l l' : List AV) (h : SlE AV.enc 4 w 0 w.heap.size a l) (h' : SlE AV.enc 4 w 0 w.heap.size a' l') (hl : l.length ≤ 1048576) (_hl' : l'.length ≤ 1048576) (f : AV → AV → Int)
    (hf : ∀ x y W, x ∈ l → y ∈ l' → Below w.heap.size w W → Calls Try.prog 58 #[x.val, y.val] W (Ret (.int .i64 (f x y)) W)) :
    Calls Try.prog 78 #[.slice a l.length cap, .slice a' l'.length cap', .func (.func 58) #[] #[]] w (Ret (.int .i64 (cmpL f l l')) w) := by
  have HF := fun x y W h1 h2 h3 => Lib.hid (hf x y W h1 h2 h3)
  clear hf
  go_enter Try.func78, Try.ntmps78
  go_wp2_with fail
  go_loopw [6, 7, 8, 9, 10, 13] (fun q _ _ _ _ i wr => q = .int .i64 0 ∧ ∃ k : Nat, k ≤ l.length ∧ k ≤ l'.length ∧ i = .int .i64 k ∧ (∀ j x y, j < k → l[j]? = some x → l'[j]? = some y → f x y = 0) ∧ Below w.heap.size w wr) (fun _ _ _ _ _ i _ => l.length - (intOf i).toNat)
  case atStart => exact ⟨rfl, 0, Nat.zero_le _, Nat.zero_le _, rfl, fun j x y hj => absurd hj (by omega), Below.refl _ _⟩
  case round =>
    obtain ⟨rfl, k, hk, hk', rfl, hz, hbw⟩ := hrel
    have hsz := hbw.size
    have HZ := Lib.hid hz
    clear hz
    by_cases hlt : k < l.length
    · have hks : l[k]? = some l[k] := List.getElem?_eq_getElem hlt
      have hm : l[k] ∈ l := List.getElem_mem hlt
      generalize l[k] = s at *
      obtain ⟨b, off, rfl, -, hb1, hb2, h0, h1, h2, h3⟩ := vals_at h hks
      rw [← hbw.cell (p := ⟨_, _, none⟩) hb2] at h0 h1 h2 h3
      have hbb : b < wr.heap.size := Nat.lt_of_lt_of_le hb2 hbw.size
      have hlt' : (k : Int) < (l.length : Int) := by omega
      have HK := Lib.hid hks
      clear h hks
      by_cases hlt2 : k < l'.length
      · have hks' : l'[k]? = some l'[k] := List.getElem?_eq_getElem hlt2
        have hm' : l'[k] ∈ l' := List.getElem_mem hlt2
        generalize l'[k] = s' at *
        obtain ⟨b', off', rfl, -, hb1', hb2', h0', h1', h2', h3'⟩ := vals_at h' hks'
        rw [← hbw.cell (p := ⟨_, _, none⟩) hb2'] at h0' h1' h2' h3'
        have hbb' : b' < wr.heap.size := Nat.lt_of_lt_of_le hb2' hbw.size
        have hlt2' : (k : Int) < (l'.length : Int) := by omega
        have HK' := Lib.hid hks'
        clear h' hks'
        have hcl := fun W h => HF s s' W hm hm' h
        clear HF
        generalize hfv : f s s' = fv at *
        have HV := Lib.hid hfv
        clear hfv
        go_wp2_with (go_at_call 58; refine (hcl _ (by repeat (first | exact hbw | refine Below.drew ?_ | refine Below.setCell ?_ (by first | omega | (simp; done) | (simp; omega)) _ | refine Below.alloc ?_ (by first | omega | (simp; done) | (simp; omega)) _))).out.mono ?_; rintro e w2 ⟨rfl, hb⟩)
        · have hne : fv ≠ 0 := by have := ‹(fv != 0) = true›; simpa using this
          go_ret
          exact ⟨by rw [cmpL_at HZ.out HK.out HK'.out (by rw [HV.out]; exact hne), HV.out]; rfl, below_via (w := w) (by repeat (first | exact hbw | exact Below.refl _ _ | refine Below.drew ?_ | refine Below.setCell ?_ (by first | omega | (simp; done) | (simp; omega)) _ | refine Below.alloc ?_ (by first | omega | (simp; done) | (simp; omega)) _)) hb⟩
        · have hz0 : fv = 0 := by have := ‹(fv != 0) = false›; simpa using this
          refine ⟨⟨rfl, k + 1, by omega, by omega, by go_num, fun j x y hj hx hy => ?_, below_via (w := w) (by repeat (first | exact hbw | exact Below.refl _ _ | refine Below.drew ?_ | refine Below.setCell ?_ (by first | omega | (simp; done) | (simp; omega)) _ | refine Below.alloc ?_ (by first | omega | (simp; done) | (simp; omega)) _)) hb⟩, by simp [intOf]; omega⟩
          rcases Nat.lt_or_ge j k with hj2 | hj2
          · exact HZ.out j x y hj2 hx hy
          · obtain rfl : j = k := by omega
            rw [HK.out] at hx; rw [HK'.out] at hy; injection hx with hx; injection hy with hy; rw [← hx, ← hy, HV.out]; exact hz0
      · have hfin := Lib.hid (show cmpL f l l' = 1 by rw [cmpL_drop k l l' HZ.out hk hk', List.drop_eq_nil_of_le (show l'.length ≤ k by omega), List.drop_eq_getElem_cons hlt]; rfl)
        go_wp2_with fail
        go_ret
        exact ⟨by rw [hfin.out]; rfl, (by repeat (first | exact hbw | exact Below.refl _ _ | refine Below.drew ?_ | refine Below.setCell ?_ (by first | omega | (simp; done) | (simp; omega)) _ | refine Below.alloc ?_ (by first | omega | (simp; done) | (simp; omega)) _))⟩
    · by_cases hlt2 : k < l'.length
      · have hfin := Lib.hid (show cmpL f l l' = -1 by rw [cmpL_drop k l l' HZ.out hk hk', List.drop_eq_nil_of_le (show l.length ≤ k by omega), List.drop_eq_getElem_cons hlt2]; rfl)
        go_wp2_with fail
        go_ret
        exact ⟨by rw [hfin.out]; rfl, hbw⟩
      · have hfin := Lib.hid (show cmpL f l l' = 0 by rw [cmpL_drop k l l' HZ.out hk hk', List.drop_eq_nil_of_le (show l.length ≤ k by omega), List.drop_eq_nil_of_le (show l'.length ≤ k by omega)]; rfl)
        go_wp2_with fail
        go_ret
        exact ⟨by rw [hfin.out]; rfl, hbw⟩

set_option maxRecDepth 100000 in
set_option maxHeartbeats 3200000 in
theorem cmpf_e (w : World) (a a' : Option Addr) (cap cap' : Nat) (l l' : List Ent) (h : SlE Ent.enc 5 w 0 w.heap.size a l) (h' : SlE Ent.enc 5 w 0 w.heap.size a' l') (hl : l.length ≤ 1048576) (_hl' : l'.length ≤ 1048576) (f : Ent → Ent → Int)
    (hf : ∀ x y W, x ∈ l → y ∈ l' → Below w.heap.size w W → Calls Try.prog 81 #[x.val, y.val] W (Ret (.int .i64 (f x y)) W)) :
    Calls Try.prog 79 #[.slice a l.length cap, .slice a' l'.length cap', .func (.func 81) #[] #[]] w (Ret (.int .i64 (cmpL f l l')) w) := by
  have HF := fun x y W h1 h2 h3 => Lib.hid (hf x y W h1 h2 h3)
  clear hf
  go_enter Try.func79, Try.ntmps79
  go_wp2_with fail
  go_loopw [6, 7, 8, 9, 10, 13] (fun q _ _ _ _ i wr => q = .int .i64 0 ∧ ∃ k : Nat, k ≤ l.length ∧ k ≤ l'.length ∧ i = .int .i64 k ∧ (∀ j x y, j < k → l[j]? = some x → l'[j]? = some y → f x y = 0) ∧ Below w.heap.size w wr) (fun _ _ _ _ _ i _ => l.length - (intOf i).toNat)
  case atStart => exact ⟨rfl, 0, Nat.zero_le _, Nat.zero_le _, rfl, fun j x y hj => absurd hj (by omega), Below.refl _ _⟩
  case round =>
    obtain ⟨rfl, k, hk, hk', rfl, hz, hbw⟩ := hrel
    have hsz := hbw.size
    have HZ := Lib.hid hz
    clear hz
    by_cases hlt : k < l.length
    · have hks : l[k]? = some l[k] := List.getElem?_eq_getElem hlt
      have hm : l[k] ∈ l := List.getElem_mem hlt
      generalize l[k] = s at *
      obtain ⟨b, off, rfl, -, hb1, hb2, h0, h1, h2, h3, h4⟩ := ents_at h hks
      rw [← hbw.cell (p := ⟨_, _, none⟩) hb2] at h0 h1 h2 h3 h4
      have hbb : b < wr.heap.size := Nat.lt_of_lt_of_le hb2 hbw.size
      have hlt' : (k : Int) < (l.length : Int) := by omega
      have HK := Lib.hid hks
      clear h hks
      by_cases hlt2 : k < l'.length
      · have hks' : l'[k]? = some l'[k] := List.getElem?_eq_getElem hlt2
        have hm' : l'[k] ∈ l' := List.getElem_mem hlt2
        generalize l'[k] = s' at *
        obtain ⟨b', off', rfl, -, hb1', hb2', h0', h1', h2', h3', h4'⟩ := ents_at h' hks'
        rw [← hbw.cell (p := ⟨_, _, none⟩) hb2'] at h0' h1' h2' h3' h4'
        have hbb' : b' < wr.heap.size := Nat.lt_of_lt_of_le hb2' hbw.size
        have hlt2' : (k : Int) < (l'.length : Int) := by omega
        have HK' := Lib.hid hks'
        clear h' hks'
        have hcl := fun W h => HF s s' W hm hm' h
        clear HF
        generalize hfv : f s s' = fv at *
        have HV := Lib.hid hfv
        clear hfv
        go_wp2_with (go_at_call 81; refine (hcl _ (by repeat (first | exact hbw | refine Below.drew ?_ | refine Below.setCell ?_ (by first | omega | (simp; done) | (simp; omega)) _ | refine Below.alloc ?_ (by first | omega | (simp; done) | (simp; omega)) _))).out.mono ?_; rintro e w2 ⟨rfl, hb⟩)
        · have hne : fv ≠ 0 := by have := ‹(fv != 0) = true›; simpa using this
          go_ret
          exact ⟨by rw [cmpL_at HZ.out HK.out HK'.out (by rw [HV.out]; exact hne), HV.out]; rfl, below_via (w := w) (by repeat (first | exact hbw | exact Below.refl _ _ | refine Below.drew ?_ | refine Below.setCell ?_ (by first | omega | (simp; done) | (simp; omega)) _ | refine Below.alloc ?_ (by first | omega | (simp; done) | (simp; omega)) _)) hb⟩
        · have hz0 : fv = 0 := by have := ‹(fv != 0) = false›; simpa using this
          refine ⟨⟨rfl, k + 1, by omega, by omega, by go_num, fun j x y hj hx hy => ?_, below_via (w := w) (by repeat (first | exact hbw | exact Below.refl _ _ | refine Below.drew ?_ | refine Below.setCell ?_ (by first | omega | (simp; done) | (simp; omega)) _ | refine Below.alloc ?_ (by first | omega | (simp; done) | (simp; omega)) _)) hb⟩, by simp [intOf]; omega⟩
          rcases Nat.lt_or_ge j k with hj2 | hj2
          · exact HZ.out j x y hj2 hx hy
          · obtain rfl : j = k := by omega
            rw [HK.out] at hx; rw [HK'.out] at hy; injection hx with hx; injection hy with hy; rw [← hx, ← hy, HV.out]; exact hz0
      · have hfin := Lib.hid (show cmpL f l l' = 1 by rw [cmpL_drop k l l' HZ.out hk hk', List.drop_eq_nil_of_le (show l'.length ≤ k by omega), List.drop_eq_getElem_cons hlt]; rfl)
        go_wp2_with fail
        go_ret
        exact ⟨by rw [hfin.out]; rfl, (by repeat (first | exact hbw | exact Below.refl _ _ | refine Below.drew ?_ | refine Below.setCell ?_ (by first | omega | (simp; done) | (simp; omega)) _ | refine Below.alloc ?_ (by first | omega | (simp; done) | (simp; omega)) _))⟩
    · by_cases hlt2 : k < l'.length
      · have hfin := Lib.hid (show cmpL f l l' = -1 by rw [cmpL_drop k l l' HZ.out hk hk', List.drop_eq_nil_of_le (show l.length ≤ k by omega), List.drop_eq_getElem_cons hlt2]; rfl)
        go_wp2_with fail
        go_ret
        exact ⟨by rw [hfin.out]; rfl, hbw⟩
      · have hfin := Lib.hid (show cmpL f l l' = 0 by rw [cmpL_drop k l l' HZ.out hk hk', List.drop_eq_nil_of_le (show l.length ≤ k by omega), List.drop_eq_nil_of_le (show l'.length ≤ k by omega)]; rfl)
        go_wp2_with fail
        go_ret
        exact ⟨by rw [hfin.out]; rfl, hbw⟩
end Go.Proofs.Ytmhkacafilpliaa

namespace Go.Proofs.Ytmhkacafilpliaa
open Go.RowKit Go.Sort

/-- A map's entries, by keys. -/
def Val.ents (v : Val) : List (ByteArray × Val) := (v.ks.zip v.l).mergeSort fun a b => decide (a.1.toList ≤ b.1.toList)
def Ent.v (e : Ent) : ByteArray × Val := (e.key, e.x.v)

theorem zip_key {α β : Type} : ∀ (ks : List α) (l : List β), ks.Nodup → ∀ a ∈ ks.zip l, ∀ b ∈ ks.zip l, a.1 = b.1 → a = b
  | [], _, _, a, ha, _, _, _ => by simp at ha
  | _ :: _, [], _, a, ha, _, _, _ => by simp at ha
  | k :: ks, y :: l, hn, a, ha, b, hb, e => by
    simp only [List.zip_cons_cons, List.mem_cons] at ha hb
    rw [List.nodup_cons] at hn
    rcases ha with rfl | ha <;> rcases hb with rfl | hb
    · rfl
    · exact absurd (by rw [show k = b.1 from e]; exact (List.of_mem_zip (a := b.1) (b := b.2) hb).1) hn.1
    · exact absurd (by rw [show k = a.1 from e.symm]; exact (List.of_mem_zip (a := a.1) (b := a.2) ha).1) hn.1
    · exact zip_key ks l hn.2 a ha b hb e

theorem ents_eq (x : AV) (hnd : x.ks.Nodup) (L : List Ent) (hp : L.Perm (ents0 x.ks x.l)) (hs : L.Pairwise fun a b => a.key.toList ≤ b.key.toList) : L.map Ent.v = x.v.ents := by
  have e0 : (ents0 x.ks x.l).map Ent.v = x.v.ks.zip x.v.l := by
    rw [AV.v_ks, AV.v_l, ents0, List.zip_map_right, List.map_map]
    rfl
  have hp' : (L.map Ent.v).Perm (x.v.ks.zip x.v.l) := by rw [← e0]; exact hp.map _
  have hm : x.v.ents.Perm (x.v.ks.zip x.v.l) := List.mergeSort_perm _ _
  have hs2 : x.v.ents.Pairwise fun a b => a.1.toList ≤ b.1.toList := by
    have := List.pairwise_mergeSort (le := fun a b : ByteArray × Val => decide (a.1.toList ≤ b.1.toList)) (fun a b c h1 h2 => by simp at *; exact List.le_trans h1 h2) (fun a b => by simp; exact List.le_total _ _) (x.v.ks.zip x.v.l)
    exact this.imp fun h => by simpa using h
  have hs1 : (L.map Ent.v).Pairwise fun a b => a.1.toList ≤ b.1.toList := List.Pairwise.map _ (fun a b h => h) hs
  refine List.Perm.eq_of_pairwise (fun a b ha hb h1 h2 => ?_) hs1 hs2 (hp'.trans hm.symm)
  have e := List.le_antisymm h1 h2
  have ek : a.1 = b.1 := by
    have : a.1.data = b.1.data := by
      rw [ByteArray.toList_eq, ByteArray.toList_eq] at e
      exact Array.toList_inj.1 e
    cases ha1 : a.1; cases hb1 : b.1; simp_all
  exact zip_key _ _ (by rw [AV.v_ks]; exact hnd) a (hp'.subset ha) b (hm.subset hb) ek

/-- values.compare, n lists and maps deep at most. -/
def cmpV : Nat → Val → Val → Int
  | 0, a, b => orInt [cmpInt a.k b.k, cmpStr a.t b.t]
  | n + 1, a, b =>
    let c := orInt [cmpInt a.k b.k, cmpStr a.t b.t]
    if c ≠ 0 ∨ a.k < 7 then c
    else if a.k = 7 then cmpL (cmpV n) a.l b.l
    else cmpL (fun x y => orInt [cmpStr x.1 y.1, cmpV n x.2 y.2]) a.ents b.ents
end Go.Proofs.Ytmhkacafilpliaa

namespace Go.Proofs.Ytmhkacafilpliaa
open Go.RowKit Go.Sort

theorem ahead_r (a b : Ent) (W : World) : Calls Try.prog 82 #[a.val, b.val] W (Ret (.int .i64 (cmpStr a.key b.key)) W) :=
  (ahead_c a b W).mono fun _ _ ⟨he, q, os, hw⟩ => ⟨he, by rw [hw]; exact Lib.below_grow _ _ (Nat.le_refl _) _ _⟩

/-- What stays through a region: all that lies below N. -/
theorem s_step {N : Nat} {W2 w' w1 : World} (hN : N ≤ W2.heap.size) (h : (∀ b o, b < N → w'.cell? ⟨b, o, none⟩ = W2.cell? ⟨b, o, none⟩) ∧ Below N W2 w') (hb : Below w'.heap.size w' w1) :
    (∀ b o, b < N → w1.cell? ⟨b, o, none⟩ = W2.cell? ⟨b, o, none⟩) ∧ Below N W2 w1 := by
  have hb' := h.2.trans (hb.mono (Nat.le_trans hN h.2.size))
  exact ⟨fun b o hlt => hb'.cell (p := ⟨b, o, none⟩) hlt, hb'⟩
theorem lit_i2 (w : World) (b : Nat) (x y : Int) (h0 : w.cell? ⟨b, 0, none⟩ = some (.int .i64 x)) (h1 : w.cell? ⟨b, 1, none⟩ = some (.int .i64 y)) : SlE (fun x => [Value.int .i64 x]) 1 w 0 w.heap.size (some ⟨b, 0, none⟩) [x, y] := fun _ => by
  have hb := World.block_lt_of_cell? w ⟨b, 0, none⟩ h0
  refine ⟨b, 0, rfl, Nat.zero_le _, hb, hb, fun i z hz j u hu => ?_⟩
  match i, hz with
  | 0, hz => cases hz; match j, hu with | 0, hu => cases hu; exact h0
  | 1, hz => cases hz; match j, hu with | 0, hu => cases hu; exact h1

theorem s_below {N n : Nat} {W W2 w' : World} (hW2 : Below n W W2) (hn : n ≤ N) (h : (∀ b o, b < N → w'.cell? ⟨b, o, none⟩ = W2.cell? ⟨b, o, none⟩) ∧ Below N W2 w') : Below n W w' := hW2.trans (h.2.mono hn)
theorem s_alloc {N : Nat} {W2 w' : World} (hN : N ≤ W2.heap.size) (h : (∀ b o, b < N → w'.cell? ⟨b, o, none⟩ = W2.cell? ⟨b, o, none⟩) ∧ Below N W2 w') (o : Obj) :
    (∀ b o', b < N → (w'.alloc o).cell? ⟨b, o', none⟩ = W2.cell? ⟨b, o', none⟩) ∧ Below N W2 (w'.alloc o) := s_step hN h ((Below.refl _ _).alloc (Nat.le_refl _) o)
theorem boxes5 {W W2 : World} {T : TypeId} (a b : Ent) (h : (W.alloc (.cells #[.string a.key, .int .u8 a.x.k, .string a.x.t, .slice a.x.la a.x.l.length a.x.lc, .slice a.x.ka a.x.ks.length a.x.kc] T)).alloc (.cells #[.string b.key, .int .u8 b.x.k, .string b.x.t, .slice b.x.la b.x.l.length b.x.lc, .slice b.x.ka b.x.ks.length b.x.kc] T) = W2) :
    W2.cell? ⟨W.heap.size, 0, none⟩ = some (.string a.key) ∧ W2.cell? ⟨W.heap.size, 1, none⟩ = some (.int .u8 a.x.k) ∧ W2.cell? ⟨W.heap.size, 2, none⟩ = some (.string a.x.t) ∧ W2.cell? ⟨W.heap.size, 3, none⟩ = some (.slice a.x.la a.x.l.length a.x.lc) ∧ W2.cell? ⟨W.heap.size, 4, none⟩ = some (.slice a.x.ka a.x.ks.length a.x.kc) ∧
    W2.cell? ⟨W.heap.size + 1, 0, none⟩ = some (.string b.key) ∧ W2.cell? ⟨W.heap.size + 1, 1, none⟩ = some (.int .u8 b.x.k) ∧ W2.cell? ⟨W.heap.size + 1, 2, none⟩ = some (.string b.x.t) ∧ W2.cell? ⟨W.heap.size + 1, 3, none⟩ = some (.slice b.x.la b.x.l.length b.x.lc) ∧ W2.cell? ⟨W.heap.size + 1, 4, none⟩ = some (.slice b.x.ka b.x.ks.length b.x.kc) := by
  subst h
  refine ⟨?_, ?_, ?_, ?_, ?_, ?_, ?_, ?_, ?_, ?_⟩ <;> go_simp

set_option maxRecDepth 100000 in
set_option maxHeartbeats 3200000 in
theorem compare1 (W : World) (a b : Ent) (r : Int) (hc : ∀ W', Below W.heap.size W W' → Calls Try.prog 58 #[a.x.val, b.x.val] W' (Ret (.int .i64 r) W')) :
    Calls Try.prog 81 #[a.val, b.val] W (Ret (.int .i64 (orInt [cmpStr a.key b.key, r])) W) := by
  have HC := fun W' h => Lib.hid (hc W' h)
  have HA := fun W' => Lib.hid (ahead_r a b W')
  have HO := fun W b' h0 h1 => Lib.hid (or_i W (some ⟨b', 0, none⟩) 2 [cmpStr a.key b.key, r] (lit_i2 W b' _ _ h0 h1) (by simp))
  clear hc
  generalize cmpStr a.key b.key = q at *
  generalize orInt [q, r] = R at *
  go_enter Try.func81, Try.ntmps81
  go_wp2_with fail
  have hN : W.heap.size + 2 ≤ ((W.alloc (.cells #[.string a.key, .int .u8 a.x.k, .string a.x.t, .slice a.x.la a.x.l.length a.x.lc, .slice a.x.ka a.x.ks.length a.x.kc] 113)).alloc (.cells #[.string b.key, .int .u8 b.x.k, .string b.x.t, .slice b.x.la b.x.l.length b.x.lc, .slice b.x.ka b.x.ks.length b.x.kc] 113)).heap.size := by simp
  have hW2 : Below W.heap.size W ((W.alloc (.cells #[.string a.key, .int .u8 a.x.k, .string a.x.t, .slice a.x.la a.x.l.length a.x.lc, .slice a.x.ka a.x.ks.length a.x.kc] 113)).alloc (.cells #[.string b.key, .int .u8 b.x.k, .string b.x.t, .slice b.x.la b.x.l.length b.x.lc, .slice b.x.ka b.x.ks.length b.x.kc] 113)) := ((Below.refl _ _).alloc (Nat.le_refl _) _).alloc (by simp) _
  generalize hg : ((W.alloc (.cells #[.string a.key, .int .u8 a.x.k, .string a.x.t, .slice a.x.la a.x.l.length a.x.lc, .slice a.x.ka a.x.ks.length a.x.kc] 113)).alloc (.cells #[.string b.key, .int .u8 b.x.k, .string b.x.t, .slice b.x.la b.x.l.length b.x.lc, .slice b.x.ka b.x.ks.length b.x.kc] 113)) = W2 at *
  obtain ⟨a0, a1, a2, a3, a4, b0, b1, b2, b3, b4⟩ := boxes5 a b hg
  clear hg
  go_region_held3 (fun w' => (∀ b o, b < W.heap.size + 2 → w'.cell? ⟨b, o, none⟩ = W2.cell? ⟨b, o, none⟩) ∧ Below (W.heap.size + 2) W2 w')
    (first | exact ⟨fun _ _ _ => rfl, (Below.refl _ _).drew⟩ | exact Q1.out | exact Q2.out | (refine s_alloc hN (by assumption) _))
    (first
      | (go_at_call 82; refine (HA _).out.mono ?_; rintro e w1 ⟨rfl, hb⟩; have Q1 := Lib.hid (s_step hN (by assumption) hb))
      | (go_at_call 58; refine (HC _ (s_below (N := W.heap.size + 2) hW2 (by omega) (by assumption))).out.mono ?_; rintro e w1 ⟨rfl, hb⟩; have Q2 := Lib.hid (s_step hN (by assumption) hb))
      | (go_at_call 75; refine (HO _ _ (by go_simp) (by go_simp)).out.mono ?_; rintro e w1 ⟨rfl, rfl⟩))
  all_goals
    go_wp2_with fail
    go_ret
    exact ⟨rfl, s_below (N := W.heap.size + 2) hW2 (by omega) (by assumption)⟩
end Go.Proofs.Ytmhkacafilpliaa
