/-
  How the reference orders a map's entries, plain: places, each put in ahead of the first that does not stand ahead of it. And rows of numbers of the call's own.
  inarchref14.Order = ordL. Conditions: the tree lies in memory, it has at most 1048576 keys.
  inarchref14.text = textV, of values that may be. Conditions: the tree lies in memory, its weight is bounded.
  inarchref14.text at a list. Conditions: the tree lies in memory, its weight is bounded.
  inarchref14.text = textV, and Text = textR. Conditions: the tree lies in memory, its weight is bounded.
-/
import Derived.Test.YtjihepdjcbpgoaaGreatDoorVJ
import Derived.Test.YtjihepdjcbpgoaaGreatDoorTE
import Derived.Laws.CopyOwn
import Derived.Test.YtjihepdjcbpgoaaGreatDoorTF
namespace Go.Proofs.YtjihepdjcbpgoaaGreatDoor
open Go.RowKit Go.Sort

def keyAt (ks : List ByteArray) (j : Nat) : List UInt8 := ((ks[j]?).getD ⟨#[]⟩).toList
def ordIns (f : Nat → List UInt8) (i : Nat) (out : List Nat) : List Nat := out.takeWhile (fun j => decide (f j < f i)) ++ i :: out.dropWhile (fun j => decide (f j < f i))
def ordL (ks : List ByteArray) : Nat → List Nat
  | 0 => []
  | i + 1 => ordIns (keyAt ks) i (ordL ks i)
theorem ordL_perm (ks : List ByteArray) : ∀ i, (ordL ks i).Perm (List.range i)
  | 0 => .refl _
  | i + 1 => by
    rw [ordL, ordIns, List.range_succ]
    refine (List.perm_middle).trans ?_
    rw [List.takeWhile_append_dropWhile]
    exact ((List.perm_append_singleton i _).trans ((List.Perm.cons i (ordL_perm ks i).symm))).symm
theorem ordL_len (ks : List ByteArray) (i : Nat) : (ordL ks i).length = i := by rw [(ordL_perm ks i).length_eq, List.length_range]
theorem ordL_lt (ks : List ByteArray) {i j : Nat} (h : j ∈ ordL ks i) : j < i := by rw [(ordL_perm ks i).mem_iff, List.mem_range] at h; exact h
theorem ordL_sorted (ks : List ByteArray) : ∀ i, (ordL ks i).Pairwise fun a b => keyAt ks a ≤ keyAt ks b
  | 0 => .nil
  | i + 1 => by
    have ih := ordL_sorted ks i
    rw [ordL, ordIns]
    generalize ordL ks i = l at ih
    induction l with
    | nil => simp
    | cons y l ihl =>
      have h1 := List.pairwise_cons.1 ih
      by_cases hy : keyAt ks y < keyAt ks i
      · rw [List.takeWhile_cons_of_pos (by simpa using hy), List.dropWhile_cons_of_pos (by simpa using hy), List.cons_append]
        refine List.pairwise_cons.2 ⟨fun b hb => ?_, ihl h1.2⟩
        rcases List.mem_append.1 hb with hb | hb
        · exact h1.1 b (List.takeWhile_subset _ hb)
        · rcases List.mem_cons.1 hb with rfl | hb
          · exact List.le_of_lt hy
          · exact h1.1 b (List.dropWhile_subset _ hb)
      · rw [List.takeWhile_cons_of_neg (by simpa using hy), List.dropWhile_cons_of_neg (by simpa using hy), List.nil_append]
        have hy' : keyAt ks i ≤ keyAt ks y := List.not_lt.1 hy
        refine List.pairwise_cons.2 ⟨fun b hb => ?_, ih⟩
        rcases List.mem_cons.1 hb with rfl | hb
        · exact hy'
        · exact List.le_trans hy' (h1.1 b hb)
theorem range_all {α : Type} : ∀ l : List α, (List.range l.length).filterMap (l[·]?) = l := fun l => by
  refine List.ext_getElem? fun i => ?_
  have : ∀ n, n ≤ l.length → (List.range n).filterMap (l[·]?) = l.take n := fun n => by
    induction n with
    | zero => intro _; simp
    | succ n ih =>
      intro h
      rw [List.range_succ, List.filterMap_append, ih (by omega), List.take_add_one]
      congr 1
  rw [this _ (Nat.le_refl _), List.take_length]
theorem ord_ents (v : Val) (hl : v.ks.length = v.l.length) (hn : v.ks.Nodup) : (ordL v.ks v.ks.length).filterMap ((v.ks.zip v.l)[·]?) = v.ents := by
  have hz : (v.ks.zip v.l).length = v.ks.length := by rw [List.length_zip, hl, Nat.min_self]
  have hp : ((ordL v.ks v.ks.length).filterMap ((v.ks.zip v.l)[·]?)).Perm (v.ks.zip v.l) := by
    have := (ordL_perm v.ks v.ks.length).filterMap ((v.ks.zip v.l)[·]?)
    refine this.trans (.of_eq ?_)
    have e := range_all (v.ks.zip v.l)
    rw [hz] at e
    exact e
  have hm : v.ents.Perm (v.ks.zip v.l) := List.mergeSort_perm _ _
  have hs2 : v.ents.Pairwise fun a b => a.1.toList ≤ b.1.toList := by
    have := List.pairwise_mergeSort (le := fun a b : ByteArray × Val => decide (a.1.toList ≤ b.1.toList)) (fun a b c h1 h2 => by simp at *; exact List.le_trans h1 h2) (fun a b => by simp; exact List.le_total _ _) (v.ks.zip v.l)
    exact this.imp fun h => by simpa using h
  have hs1 : ((ordL v.ks v.ks.length).filterMap ((v.ks.zip v.l)[·]?)).Pairwise fun a b => a.1.toList ≤ b.1.toList := by
    refine List.Pairwise.filterMap _ (fun a b h a' ha b' hb => ?_) (ordL_sorted v.ks v.ks.length)
    have k : ∀ j p, (v.ks.zip v.l)[j]? = some p → keyAt v.ks j = p.1.toList := fun j p hj => by
      obtain ⟨h1, h2⟩ := List.getElem?_zip_eq_some.1 hj
      rw [keyAt, h1]; rfl
    rw [← k a a' ha, ← k b b' hb]
    exact h
  refine List.Perm.eq_of_pairwise (fun a b ha hb h1 h2 => ?_) hs1 hs2 (hp.trans hm.symm)
  have e := bl_eq (List.le_antisymm h1 h2)
  exact zip_key _ _ hn a (hp.mem_iff.1 ha) b (hm.mem_iff.1 hb) e
/-- Where the way through the row ends. -/
theorem ins_at {f : Nat → List UInt8} {i k : Nat} {out : List Nat} (h1 : ∀ j ∈ out.take k, f j < f i) (h2 : ∀ j, out[k]? = some j → ¬ f j < f i) : ordIns f i out = out.take k ++ i :: out.drop k := by
  have : ∀ (k : Nat) (out : List Nat), (∀ j ∈ out.take k, f j < f i) → (∀ j, out[k]? = some j → ¬ f j < f i) → out.takeWhile (fun j => decide (f j < f i)) = out.take k ∧ out.dropWhile (fun j => decide (f j < f i)) = out.drop k := fun k => by
    induction k with
    | zero =>
      intro out _ h2
      cases out with
      | nil => simp
      | cons y l => have := h2 y rfl; simp [this]
    | succ k ih =>
      intro out h1 h2
      cases out with
      | nil => simp
      | cons y l =>
        have hy := h1 y (by simp)
        obtain ⟨e1, e2⟩ := ih l (fun j hj => h1 j (by simp [hj])) (fun j hj => h2 j (by simpa using hj))
        rw [List.takeWhile_cons_of_pos (by simpa using hy), List.dropWhile_cons_of_pos (by simpa using hy), e1, e2]
        simp
  obtain ⟨e1, e2⟩ := this k out h1 h2
  rw [ordIns, e1, e2]

def natE (n : Nat) : List Value := [.int .i64 (n : Int)]
def natV (l : List Nat) : List Value := l.map fun n : Nat => Value.int .i64 (n : Int)
theorem natE_flat : ∀ l : List Nat, l.flatMap natE = natV l
  | [] => rfl
  | x :: l => by rw [List.flatMap_cons, natE_flat l]; rfl
theorem info_nat : (Tryz.prog.info? 3).map (fun i => (i.zero, i.size, i.bytes)) = some (some (.int .i64 0), 1, 8) := by kernel_rfl
def OwnN (w : World) (base : Nat) (v : Value) (l : List Nat) : Prop := w.ownsRow base 3 1 v l.length (l.flatMap natE)
theorem app_nat {w : World} {base : Nat} {v : Value} {l : List Nat} (hown : OwnN w base v l) {lo hi : Nat} {A : Option Addr} {m : List Nat} {c : Nat} (hr : SlE natE 1 w lo hi A m) (hn : l.length + m.length ≤ 16777216) (hbase : base ≤ w.heap.size) :
    ∃ v' w', (∀ ty, (Builtin.append_ #[99, 99] ty #[v, .slice A m.length c]).run Tryz.prog w = .ok v' w') ∧ OwnN w' base v' (l ++ m) ∧ w.grownBy w' v.ownBlock ∧ (v'.ownBlock = v.ownBlock ∨ v'.ownBlock = some w.heap.size) := by
  obtain ⟨i0, hi0, hz0, hz1, hz2⟩ := info_parts info_nat
  obtain ⟨v', w', h1, h2, h3, h4⟩ := run_append_sl (P := Tryz.prog) w natE base 99 0 3 i0 _ 1 8 Tryz.underlying99 hi0 hz0 hz1 hz2 rfl (by omega) (by omega) v l.length _ hown lo hi A m c hr (fun _ => rfl) (fun x u hu => by simp [natE] at hu; subst hu; rfl) hn hbase
  exact ⟨v', w', fun ty => h1, by simp only [OwnN, List.length_append, List.flatMap_append]; exact h2, h3, h4⟩
theorem own_blk {w : World} {base : Nat} {v : Value} {l : List Nat} (h : OwnN w base v l) (hp : 0 < l.length) :
    ∃ g cap rest, v = .slice (some ⟨g, 0, none⟩) l.length cap ∧ base ≤ g ∧ w.heap[g]? = some (.cells (natV l ++ rest).toArray 3 (0, 0)) ∧ l.length + rest.length = cap ∧ cap ≤ maxLen := by
  rcases h.2 with ⟨_, h0⟩ | ⟨g, cap, cur, e, hb, hg, h1, h2, h3, h4⟩
  · omega
  · rw [Nat.mul_one] at h3 h4
    refine ⟨g, cap, cur.toList.drop l.length, e, hb, ?_, ?_, h2⟩
    · rw [natE_flat] at h4
      rw [← h4, List.take_append_drop, Array.toArray_toList]
      exact hg
    · have h5 : cur.toList.length = cap := by rw [Array.length_toList]; exact h3
      rw [List.length_drop]; omega
theorem blk_own {w : World} {base g cap : Nat} {l : List Nat} {rest : List Value} (hb : base ≤ g) (hg : w.heap[g]? = some (.cells (natV l ++ rest).toArray 3 (0, 0))) (hc : l.length + rest.length = cap) (hm : cap ≤ maxLen) :
    OwnN w base (.slice (some ⟨g, 0, none⟩) l.length cap) l := by
  have hl : (natV l).length = l.length := by simp [natV]
  refine ⟨by rw [natE_flat, hl, Nat.mul_one], .inr ⟨g, cap, _, rfl, hb, hg, by omega, hm, by simp [hl]; omega, ?_⟩⟩
  rw [natE_flat, Nat.mul_one, ← hl]
  simp
theorem natV_len (l : List Nat) : (natV l).length = l.length := by simp [natV]
theorem natV_app (l m : List Nat) : natV (l ++ m) = natV l ++ natV m := by simp [natV]
/-- Room made ahead of place k. -/
theorem splice_ins (out : List Nat) (rest : List Value) (k : Nat) (hk : k ≤ out.length) : ∃ X, splice (natV (out ++ [0]) ++ rest) (k + 1) (natV (out.drop k)) = natV (out.take k) ++ X :: (natV (out.drop k) ++ rest) := by
  have h0 : natV (out ++ [0]) ++ rest = natV (out.take k) ++ (natV (out.drop k ++ [0]) ++ rest) := by
    rw [← List.append_assoc, ← natV_app, ← List.append_assoc, List.take_append_drop]
  obtain ⟨X, tl, hx⟩ : ∃ X tl, natV (out.drop k ++ [0]) ++ rest = X :: tl := by
    cases h : natV (out.drop k ++ [0]) ++ rest with
    | nil => have := congrArg List.length h; simp [natV] at this
    | cons X tl => exact ⟨X, tl, rfl⟩
  have hl : (natV (out.take k)).length = k := by rw [natV_len, List.length_take]; omega
  have hd : (natV (out ++ [0]) ++ rest).drop (k + 1 + (natV (out.drop k)).length) = rest := by
    have e : k + 1 + (natV (out.drop k)).length = (natV (out ++ [0])).length := by rw [natV_len, natV_len, List.length_drop, List.length_append, List.length_singleton]; omega
    rw [e, List.drop_left]
  refine ⟨X, ?_⟩
  rw [splice, hd, h0, hx, List.take_append, hl, show k + 1 - k = 1 by omega]
  rw [List.take_of_length_le (by rw [hl]; omega)]
  simp
end Go.Proofs.YtjihepdjcbpgoaaGreatDoor

namespace Go.Proofs.YtjihepdjcbpgoaaGreatDoor
open Go.RowKit Go.Sort

def OrderPost (ks : List ByteArray) (w : World) (e : Ending) (w' : World) : Prop :=
  ∃ A c, e = .returned (.slice A (ordL ks ks.length).length c) ∧ SlE natE 1 w' w.heap.size w'.heap.size A (ordL ks ks.length) ∧ Below w.heap.size w w'
theorem own_formN {w : World} {base : Nat} {v : Value} {l : List Nat} (h : OwnN w base v l) : ∃ a c, v = .slice a l.length c := by
  rcases h.2 with ⟨e, h0⟩ | ⟨g, cap, cur, e, _⟩
  · exact ⟨none, 0, by rw [e, h0]⟩
  · exact ⟨_, _, e⟩
theorem nat_at {w : World} {lo hi : Nat} {a : Option Addr} {l : List Nat} (h : SlE natE 1 w lo hi a l) {k : Nat} {y : Nat} (hk : l[k]? = some y) :
    ∃ b off, a = some ⟨b, off, none⟩ ∧ lo ≤ b ∧ b < hi ∧ b < w.heap.size ∧ w.cell? ⟨b, off + k, none⟩ = some (.int .i64 (y : Int)) := by
  have hl : k < l.length := (List.getElem?_eq_some_iff.1 hk).1
  obtain ⟨b, off, e, g1, g2, g3, g4⟩ := h (by omega)
  have c := g4 k y hk
  exact ⟨b, off, e, g1, g2, g3, by simpa using c 0 _ rfl⟩

set_option maxRecDepth 100000 in
set_option maxHeartbeats 3200000 in
theorem order_c (x : AV) (w : World) (hx : Rd w x) (hlk : x.ks.length ≤ 1048576) : Calls Tryz.prog 97 #[x.val] w (OrderPost x.ks w) := by
  have HX := Lib.hid hx
  clear hx
  have hb0 : Below w.heap.size w (w.alloc (.cells #[.int .u8 x.k, .string x.t, .slice x.la x.l.length x.lc, .slice x.ka x.ks.length x.kc] 26)) := (Below.refl _ _).alloc (Nat.le_refl _) _
  have HB0 := Lib.hid hb0
  have HBX := Lib.hid (heap_alloc_new w (.cells #[.int .u8 x.k, .string x.t, .slice x.la x.l.length x.lc, .slice x.ka x.ks.length x.kc] 26))
  clear hb0
  have hown0 : OwnN (w.alloc (.cells #[.int .u8 x.k, .string x.t, .slice x.la x.l.length x.lc, .slice x.ka x.ks.length x.kc] 26)) (w.heap.size + 1) (.slice none 0 0) [] := ⟨rfl, .inl ⟨rfl, rfl⟩⟩
  go_enter Tryz.func97, Tryz.ntmps97
  go_wp2_with fail
  go_loopw [3, 4, 5] (fun s3 s4 _ wr => ∃ (i : Nat) (a : Option Addr) (c : Nat), i ≤ x.ks.length ∧ s4 = .int .i64 i ∧ s3 = .slice a i c ∧ OwnN wr (w.heap.size + 1) (.slice a i c) (ordL x.ks i) ∧ Below (w.heap.size + 1) (w.alloc (.cells #[.int .u8 x.k, .string x.t, .slice x.la x.l.length x.lc, .slice x.ka x.ks.length x.kc] 26)) wr) (fun _ s4 _ _ => x.ks.length - (intOf s4).toNat)
  case atStart => exact ⟨0, none, 0, Nat.zero_le _, by go_num, rfl, hown0, Below.refl _ _⟩
  case round =>
    obtain ⟨wo, hwo⟩ : ∃ w0 : World, w0 = wr := ⟨_, rfl⟩
    subst hwo
    obtain ⟨i, a, c, hi, rfl, rfl, hown, hbr⟩ := hrel
    have hol := ordL_len x.ks i
    have holt : ∀ j ∈ ordL x.ks i, j < i := fun j h => ordL_lt x.ks h
    have hord : ordL x.ks (i + 1) = ordIns (keyAt x.ks) i (ordL x.ks i) := rfl
    have hsr := hbr.size
    rw [World.size_alloc] at hsr
    have hbw : Below w.heap.size w wo := HB0.out.trans (hbr.mono (by omega))
    have hbx := (hbr.block w.heap.size (by omega)).trans HBX.out
    obtain ⟨q0, q1, q2, q3, -, -, -, -⟩ := vbox4 hbx
    have hl0 : w.heap.size < wo.heap.size := by omega
    have hsl : SlE natE 1 wo (w.heap.size + 1) wo.heap.size a (ordL x.ks i) := own_sl (enc := natE) (size := 1) (fun _ => rfl) hown
    generalize hout : ordL x.ks i = out at hown hol holt hord hsl
    have HOUT := Lib.hid hout
    clear hout
    have HOW := Lib.hid hown
    have HSL := Lib.hid hsl
    have HBR := Lib.hid hbr
    have HBW := Lib.hid hbw
    have HORD := Lib.hid hord
    have HOL := Lib.hid hol
    have HBXO := Lib.hid hbx
    clear hown hsl hbr hbw hord hol hbx hown0
    by_cases hlt : i < x.ks.length
    · have hk : x.ks[i]? = some x.ks[i] := List.getElem?_eq_getElem hlt
      generalize x.ks[i] = s at hk
      obtain ⟨b, off, hka, -, -, g2, c2⟩ := key_at HX.out.keys hk
      have HKI := Lib.hid (show keyAt x.ks i = s.toList by rw [keyAt, hk]; rfl)
      have HKA := Lib.hid hka
      have hlt' : (i : Int) < (x.ks.length : Int) := by omega
      have hi0 : (0 : Int) ≤ (i : Int) := by omega
      have hwi : IntKind.i64.wrap ((i : Int) + 1) = ((i + 1 : Nat) : Int) := by rw [IntWalk.i64_in _ (by omega)]; omega
      clear hk hka
      go_wp2_with fail
      go_loopw [5] (fun s5 wv => ∃ k : Nat, k ≤ i ∧ s5 = .int .i64 k ∧ (∀ j ∈ out.take k, keyAt x.ks j < keyAt x.ks i) ∧ Below wo.heap.size wo wv) (fun s5 _ => i - (intOf s5).toNat)
      case atStart => exact ⟨0, Nat.zero_le _, by go_num, by simp, Below.refl _ _⟩
      case round =>
        obtain ⟨wv, hwv⟩ : ∃ w0 : World, w0 = wr := ⟨_, rfl⟩
        subst hwv
        obtain ⟨k, hki, rfl, hall, hbv⟩ := hrel
        have hsv := hbv.size
        clear q0 q1 q2 q3
        obtain ⟨q0, q1, q2, q3, -, -, -, -⟩ := vbox4 ((hbv.block w.heap.size hl0).trans HBXO.out)
        have hv0 : w.heap.size < wv.heap.size := by omega
        have hbwv := below_via HBW.out hbv
        have d2 := (hbwv.cell (p := ⟨b, off + i, none⟩) g2).trans c2
        have hvb : b < wv.heap.size := Nat.lt_of_lt_of_le g2 hbwv.size
        have HALL := Lib.hid hall
        have HBV := Lib.hid hbv
        have hwk : IntKind.i64.wrap ((k : Int) + 1) = ((k + 1 : Nat) : Int) := by rw [IntWalk.i64_in _ (by omega)]; omega
        have hk0 : (0 : Int) ≤ (k : Int) := by omega
        rw [HKA.out] at q3
        have hway : (∃ j t, out[k]? = some j ∧ x.ks[j]? = some t ∧ k < i ∧ j < i ∧ keyAt x.ks j < keyAt x.ks i) ∨ (∃ j t, out[k]? = some j ∧ x.ks[j]? = some t ∧ k < i ∧ j < i ∧ ¬ keyAt x.ks j < keyAt x.ks i) ∨ (k = i ∧ ∀ j, out[k]? = some j → ¬ keyAt x.ks j < keyAt x.ks i) := by
          by_cases hk : k < i
          · obtain ⟨j, ho⟩ : ∃ j, out[k]? = some j := ⟨_, List.getElem?_eq_getElem (by rw [HOL.out]; exact hk)⟩
            have hji := holt j (List.mem_of_getElem? ho)
            obtain ⟨t, ht⟩ : ∃ t, x.ks[j]? = some t := ⟨_, List.getElem?_eq_getElem (by omega)⟩
            by_cases hc : keyAt x.ks j < keyAt x.ks i
            · exact .inl ⟨j, t, ho, ht, hk, hji, hc⟩
            · exact .inr (.inl ⟨j, t, ho, ht, hk, hji, hc⟩)
          · exact .inr (.inr ⟨by omega, fun j h' => by rw [List.getElem?_eq_none (by rw [HOL.out]; omega)] at h'; cases h'⟩)
        rcases hway with ⟨j, t, ho, hkj, hk, hji, hc⟩ | ⟨j, t, ho, hkj, hk, hji, hc⟩ | ⟨hk, hno⟩
        rotate_left 2
        · have hkd : decide ((k : Int) < (i : Int)) = false := decide_eq_false (by omega)
          have hkd2 : decide (k < i) = false := decide_eq_false (by omega)
          have hkd3 : ¬ k < i := by omega
          have hins := Lib.hid (ins_at (f := keyAt x.ks) (i := i) (k := k) (out := out) HALL.out hno)
          clear hall hbv hbwv hno hk
          go_upto_region 6 with fail
          go_quiet (fail)
          go_upto_region 8 with fail
          go_name_world W8 hW8
          have hb8 : Below wo.heap.size wo W8 := by rw [← hW8]; exact below_drewN HBV.out _
          clear hW8
          have hs8 := hb8.size
          have hlit : SlE natE 1 (W8.alloc (.cells #[.int .i64 0] 3)) W8.heap.size (W8.heap.size + 1) (some ⟨W8.heap.size, 0, none⟩) [0] := lit_sl (enc := natE) (size := 1) (l := [0]) (t := 3) (fr := (0, 0)) (fun _ => rfl) (heap_alloc_new _ _)
          obtain ⟨v', W', hrun, hown', hgr, -⟩ := app_nat (c := 1) (own_below (own_below HOW.out hb8) ((Below.refl _ _).alloc (Nat.le_refl _) _)) hlit (by have := HOL.out; simp; omega) (by simp; omega)
          obtain ⟨g, cap, rest, rfl, hg1, hg2, hg3, hg4⟩ := own_blk hown' (by simp)
          have hb9 : Below (w.heap.size + 1) wo W' := (hb8.mono (by omega)).trans (((Below.refl _ _).alloc (by omega) _).grown hgr (by simp; omega) (fun q hq => (World.ownsRow.lt HOW.out q hq).1))
          rw [List.length_append, List.length_singleton, HOL.out] at hrun hg3
          have HB9 := Lib.hid hb9
          have HG2 := Lib.hid hg2
          have HB8 := Lib.hid hb8
          clear hlit hown' hgr hb9 hg2 hb8 d2 q0 q1 q2 q3
          go_wp2_with (at_builtin; refine wl_append (s := .tmp 35) (x := .tmp 36) rfl rfl (hrun _) ?_; clear hrun)
          have hwk1 : IntKind.i64.wrap ((k : Int) + 1) = (k : Int) + 1 := IntWalk.i64_in _ (by omega)
          have hn1 : (0 : Int) ≤ (k : Int) + 1 := by omega
          have hn2 : (k : Int) + 1 ≤ (i : Int) + 1 := by omega
          have hn3 : (k : Int) ≤ (i : Int) + 1 := by omega
          have hki' : k = i := by omega
          subst hki'
          have hik : k - k = 0 := Nat.sub_self k
          have hik1 : k + 1 - k = 1 := by omega
          rcases Nat.eq_or_lt_of_le (show k + 1 ≤ cap by omega) with hcc | hcc
          · subst hcc
            have hn4 : ¬ (k + 1) = k := by omega
            have ht1 : ((k : Int) + 1).toNat = k + 1 := by omega
            clear hwk
            have hcsl : (natV (out.drop k)).length = Nat.min 1 0 := by rw [natV_len, List.length_drop, HOL.out]; exact Nat.sub_self k
            have hcell : ∀ j v, (natV (out.drop k))[j]? = some v → W'.drew.cell? ((⟨g, k, none⟩ : Addr).add j) = some v := fun u v hv => by
              have hv' : (natV out)[k + u]? = some v := by
                simp only [natV, List.getElem?_map, List.getElem?_drop] at hv ⊢
                exact hv
              have hul := (List.getElem?_eq_some_iff.1 hv').1
              rw [add_none]
              show W'.cell? ⟨g, k + u, none⟩ = some v
              simp only [World.cell?, HG2.out, List.getElem?_toArray]
              rw [List.getElem?_append_left (by rw [natV_len] at hul ⊢; rw [List.length_append]; omega), natV_app, List.getElem?_append_left hul]
              exact hv'
            have hfit : k + 1 + (natV (out.drop k)).length ≤ (natV (out ++ [0]) ++ rest).length := by rw [List.length_append, natV_len, natV_len, List.length_drop, List.length_append, List.length_singleton, HOL.out]; omega
            have hone : ∀ v ∈ natV (out.drop k), v.oneCell' = true := fun v hv => by
              simp only [natV, List.mem_map] at hv
              obtain ⟨u, -, rfl⟩ := hv
              rfl
            obtain ⟨X, hsp⟩ := splice_ins out rest k (by rw [HOL.out]; exact hki)
            have hsz : (Tryz.prog.info? 3).map (·.size) = some 1 := by kernel_rfl
            have HCL := Lib.hid hcsl
            have HCE := Lib.hid hcell
            have HFI := Lib.hid hfit
            have HSP := Lib.hid hsp
            clear hcsl hcell hfit hsp
            go_region_law (first
              | (refine step_copy_splice rfl (.tmp 41) (.tmp 44) 99 99 rfl 3 Tryz.underlying99 hsz (some ⟨g, 0, none⟩) (some ⟨g, k, none⟩) 0 (0) 1 (1) (by simp [Act.eval, Act.put]) (by simp [Act.eval, Act.put]) g (k + 1) (natV (out ++ [0]) ++ rest) 3 HG2.out (natV (out.drop k)) HCL.out (fun hp => absurd hp (by rw [HCL.out]; decide)) HFI.out hone (w.heap.size + 1) wo HB9.out.drew hg1 ?_; intro w9 h9 hb9))
            rw [HSP.out] at h9
            have hgk : w9.cell? ⟨g, k, none⟩ = some X := by
              simp only [World.cell?, h9.out, List.getElem?_toArray]
              rw [List.getElem?_append_right (by rw [natV_len, List.length_take]; omega), natV_len, List.length_take, HOL.out, Nat.min_eq_left hki, Nat.sub_self]
              rfl
            have hgf : w9.frozen? ⟨g, k, none⟩ = false := by simp [World.frozen?, h9.out]
            have hg9 : g < w9.heap.size := lt_of_block h9.out
            have hk9 : (k : Int) < (k : Int) + 1 := by omega
            have HB10 := Lib.hid hb9
            clear hb9
            go_wp2_with fail
            have hset := set_blk h9.out k (.int .i64 (k : Int))
            have hnew : ((natV (out.take k) ++ X :: (natV (out.drop k) ++ rest)).toArray.setIfInBounds k (.int .i64 (k : Int))) = (natV (ordIns (keyAt x.ks) k out) ++ rest).toArray := by
              rw [hins.out, natV_app, List.setIfInBounds_toArray, List.set_append, if_neg (by rw [natV_len, List.length_take]; omega), natV_len, List.length_take, HOL.out, Nat.min_eq_left hki, Nat.sub_self]
              simp [natV]
            rw [hnew, ← HORD.out] at hset
            have hol' : (ordL x.ks (k + 1)).length = k + 1 := ordL_len _ _
            have hownF := blk_own (base := w.heap.size + 1) (cap := (k + 1)) hg1 hset (by rw [hol']; exact hg3) hg4
            rw [hol'] at hownF
            exact ⟨⟨k + 1, some ⟨g, 0, none⟩, (k + 1), by omega, by go_num, rfl, hownF, (HBR.out.trans HB10.out).setCell (p := ⟨g, k, none⟩) hg1 _⟩, by simp [intOf]; omega⟩
          · have hn5 : ¬ cap = k + 1 := by omega
            have hn4 : ¬ cap = k := by omega
            have ht1 : ((k : Int) + 1).toNat = k + 1 := by omega
            clear hwk
            have hcsl : (natV (out.drop k)).length = Nat.min 1 0 := by rw [natV_len, List.length_drop, HOL.out]; exact Nat.sub_self k
            have hcell : ∀ j v, (natV (out.drop k))[j]? = some v → W'.drew.cell? ((⟨g, k, none⟩ : Addr).add j) = some v := fun u v hv => by
              have hv' : (natV out)[k + u]? = some v := by
                simp only [natV, List.getElem?_map, List.getElem?_drop] at hv ⊢
                exact hv
              have hul := (List.getElem?_eq_some_iff.1 hv').1
              rw [add_none]
              show W'.cell? ⟨g, k + u, none⟩ = some v
              simp only [World.cell?, HG2.out, List.getElem?_toArray]
              rw [List.getElem?_append_left (by rw [natV_len] at hul ⊢; rw [List.length_append]; omega), natV_app, List.getElem?_append_left hul]
              exact hv'
            have hfit : k + 1 + (natV (out.drop k)).length ≤ (natV (out ++ [0]) ++ rest).length := by rw [List.length_append, natV_len, natV_len, List.length_drop, List.length_append, List.length_singleton, HOL.out]; omega
            have hone : ∀ v ∈ natV (out.drop k), v.oneCell' = true := fun v hv => by
              simp only [natV, List.mem_map] at hv
              obtain ⟨u, -, rfl⟩ := hv
              rfl
            obtain ⟨X, hsp⟩ := splice_ins out rest k (by rw [HOL.out]; exact hki)
            have hsz : (Tryz.prog.info? 3).map (·.size) = some 1 := by kernel_rfl
            have HCL := Lib.hid hcsl
            have HCE := Lib.hid hcell
            have HFI := Lib.hid hfit
            have HSP := Lib.hid hsp
            clear hcsl hcell hfit hsp
            go_region_law (first
              | (refine step_copy_splice rfl (.tmp 41) (.tmp 44) 99 99 rfl 3 Tryz.underlying99 hsz (some ⟨g, k + 1, none⟩) (some ⟨g, k, none⟩) 0 (cap - (k + 1)) 1 (cap - k) (by simp [Act.eval, Act.put]) (by simp [Act.eval, Act.put]) g (k + 1) (natV (out ++ [0]) ++ rest) 3 HG2.out (natV (out.drop k)) HCL.out (fun hp => ⟨rfl, ⟨g, k, none⟩, rfl, HCE.out⟩) HFI.out hone (w.heap.size + 1) wo HB9.out.drew hg1 ?_; intro w9 h9 hb9))
            rw [HSP.out] at h9
            have hgk : w9.cell? ⟨g, k, none⟩ = some X := by
              simp only [World.cell?, h9.out, List.getElem?_toArray]
              rw [List.getElem?_append_right (by rw [natV_len, List.length_take]; omega), natV_len, List.length_take, HOL.out, Nat.min_eq_left hki, Nat.sub_self]
              rfl
            have hgf : w9.frozen? ⟨g, k, none⟩ = false := by simp [World.frozen?, h9.out]
            have hg9 : g < w9.heap.size := lt_of_block h9.out
            have hk9 : (k : Int) < (k : Int) + 1 := by omega
            have HB10 := Lib.hid hb9
            clear hb9
            go_wp2_with fail
            have hset := set_blk h9.out k (.int .i64 (k : Int))
            have hnew : ((natV (out.take k) ++ X :: (natV (out.drop k) ++ rest)).toArray.setIfInBounds k (.int .i64 (k : Int))) = (natV (ordIns (keyAt x.ks) k out) ++ rest).toArray := by
              rw [hins.out, natV_app, List.setIfInBounds_toArray, List.set_append, if_neg (by rw [natV_len, List.length_take]; omega), natV_len, List.length_take, HOL.out, Nat.min_eq_left hki, Nat.sub_self]
              simp [natV]
            rw [hnew, ← HORD.out] at hset
            have hol' : (ordL x.ks (k + 1)).length = k + 1 := ordL_len _ _
            have hownF := blk_own (base := w.heap.size + 1) (cap := cap) hg1 hset (by rw [hol']; exact hg3) hg4
            rw [hol'] at hownF
            exact ⟨⟨k + 1, some ⟨g, 0, none⟩, cap, by omega, by go_num, rfl, hownF, (HBR.out.trans HB10.out).setCell (p := ⟨g, k, none⟩) hg1 _⟩, by simp [intOf]; omega⟩
        all_goals
          obtain ⟨ob, oo, ha, -, -, o2, oc⟩ := nat_at HSL.out ho
          obtain ⟨b', off', e', -, -, g3, c3⟩ := key_at HX.out.keys hkj
          rw [HKA.out] at e'
          cases e'
          have HKJ := Lib.hid (show keyAt x.ks j = t.toList by rw [keyAt, hkj]; rfl)
          have d3 := (hbwv.cell (p := ⟨b, off + j, none⟩) g3).trans c3
          have d4 := (hbv.cell (p := ⟨ob, oo + k, none⟩) o2).trans oc
          have hvo : ob < wv.heap.size := Nat.lt_of_lt_of_le o2 hsv
          have hk' : (k : Int) < (i : Int) := by omega
          have hj0 : (0 : Int) ≤ (j : Int) := by omega
          have hjl : (j : Int) < (x.ks.length : Int) := by omega
          have HO := Lib.hid ho
          subst ha
        · have hless : Op.bytesLess t.toList s.toList = true := by rw [bytesLess_eq, ← HKJ.out, ← HKI.out]; exact decide_eq_true hc
          have hall' := Lib.hid (show ∀ j ∈ out.take (k + 1), keyAt x.ks j < keyAt x.ks i from fun u hu => by
            rw [List.take_add_one, HO.out] at hu
            rcases List.mem_append.1 hu with hu | hu
            · exact HALL.out u hu
            · simp at hu; subst hu; exact hc)
          clear hall hbv hbwv ho hkj hc
          go_upto_region 6 with fail
          go_quiet (fail)
          go_wp2_with fail
          exact ⟨⟨k + 1, by omega, by go_num, hall'.out, below_drewN HBV.out _⟩, by simp [intOf]; omega⟩
        · have hless : Op.bytesLess t.toList s.toList = false := by rw [bytesLess_eq, ← HKJ.out, ← HKI.out]; exact decide_eq_false hc
          have hins := Lib.hid (ins_at (f := keyAt x.ks) (i := i) (k := k) (out := out) HALL.out fun j' h' => by rw [HO.out] at h'; cases h'; exact hc)
          clear hall hbv hbwv ho hkj hc
          go_upto_region 6 with fail
          go_quiet (fail)
          go_upto_region 8 with fail
          go_name_world W8 hW8
          have hb8 : Below wo.heap.size wo W8 := by rw [← hW8]; exact below_drewN HBV.out _
          clear hW8
          have hs8 := hb8.size
          have hlit : SlE natE 1 (W8.alloc (.cells #[.int .i64 0] 3)) W8.heap.size (W8.heap.size + 1) (some ⟨W8.heap.size, 0, none⟩) [0] := lit_sl (enc := natE) (size := 1) (l := [0]) (t := 3) (fr := (0, 0)) (fun _ => rfl) (heap_alloc_new _ _)
          obtain ⟨v', W', hrun, hown', hgr, -⟩ := app_nat (c := 1) (own_below (own_below HOW.out hb8) ((Below.refl _ _).alloc (Nat.le_refl _) _)) hlit (by have := HOL.out; simp; omega) (by simp; omega)
          obtain ⟨g, cap, rest, rfl, hg1, hg2, hg3, hg4⟩ := own_blk hown' (by simp)
          have hb9 : Below (w.heap.size + 1) wo W' := (hb8.mono (by omega)).trans (((Below.refl _ _).alloc (by omega) _).grown hgr (by simp; omega) (fun q hq => (World.ownsRow.lt HOW.out q hq).1))
          rw [List.length_append, List.length_singleton, HOL.out] at hrun hg3
          have HB9 := Lib.hid hb9
          have HG2 := Lib.hid hg2
          have HB8 := Lib.hid hb8
          clear hlit hown' hgr hb9 hg2 hb8 d2 d3 d4 q0 q1 q2 q3
          go_wp2_with (at_builtin; refine wl_append (s := .tmp 35) (x := .tmp 36) rfl rfl (hrun _) ?_; clear hrun)
          have hwk1 : IntKind.i64.wrap ((k : Int) + 1) = (k : Int) + 1 := IntWalk.i64_in _ (by omega)
          have hn1 : (0 : Int) ≤ (k : Int) + 1 := by omega
          have hn2 : (k : Int) + 1 ≤ (i : Int) + 1 := by omega
          have hn3 : (k : Int) ≤ (i : Int) + 1 := by omega
          have hn4 : ¬ cap = k := by omega
          have hn5 : ¬ cap = k + 1 := by omega
          have ht1 : ((k : Int) + 1).toNat = k + 1 := by omega
          clear hwk
          have hcsl : (natV (out.drop k)).length = Nat.min (i + 1 - k) (i - k) := by rw [natV_len, List.length_drop, HOL.out]; exact (Nat.min_eq_right (by omega)).symm
          have hcell : ∀ j v, (natV (out.drop k))[j]? = some v → W'.drew.cell? ((⟨g, k, none⟩ : Addr).add j) = some v := fun u v hv => by
            have hv' : (natV out)[k + u]? = some v := by
              simp only [natV, List.getElem?_map, List.getElem?_drop] at hv ⊢
              exact hv
            have hul := (List.getElem?_eq_some_iff.1 hv').1
            rw [add_none]
            show W'.cell? ⟨g, k + u, none⟩ = some v
            simp only [World.cell?, HG2.out, List.getElem?_toArray]
            rw [List.getElem?_append_left (by rw [natV_len] at hul ⊢; rw [List.length_append]; omega), natV_app, List.getElem?_append_left hul]
            exact hv'
          have hfit : k + 1 + (natV (out.drop k)).length ≤ (natV (out ++ [0]) ++ rest).length := by rw [List.length_append, natV_len, natV_len, List.length_drop, List.length_append, List.length_singleton, HOL.out]; omega
          have hone : ∀ v ∈ natV (out.drop k), v.oneCell' = true := fun v hv => by
            simp only [natV, List.mem_map] at hv
            obtain ⟨u, -, rfl⟩ := hv
            rfl
          obtain ⟨X, hsp⟩ := splice_ins out rest k (by rw [HOL.out]; exact hki)
          have hsz : (Tryz.prog.info? 3).map (·.size) = some 1 := by kernel_rfl
          have HCL := Lib.hid hcsl
          have HCE := Lib.hid hcell
          have HFI := Lib.hid hfit
          have HSP := Lib.hid hsp
          clear hcsl hcell hfit hsp
          go_region_law (first
            | (refine step_copy_splice rfl (.tmp 41) (.tmp 44) 99 99 rfl 3 Tryz.underlying99 hsz (some ⟨g, k + 1, none⟩) (some ⟨g, k, none⟩) (i - k) (cap - (k + 1)) (i + 1 - k) (cap - k) (by simp [Act.eval, Act.put]) (by simp [Act.eval, Act.put]) g (k + 1) (natV (out ++ [0]) ++ rest) 3 HG2.out (natV (out.drop k)) HCL.out (fun hp => ⟨rfl, ⟨g, k, none⟩, rfl, HCE.out⟩) HFI.out hone (w.heap.size + 1) wo HB9.out.drew hg1 ?_; intro w9 h9 hb9))
          rw [HSP.out] at h9
          have hgk : w9.cell? ⟨g, k, none⟩ = some X := by
            simp only [World.cell?, h9.out, List.getElem?_toArray]
            rw [List.getElem?_append_right (by rw [natV_len, List.length_take]; omega), natV_len, List.length_take, HOL.out, Nat.min_eq_left hki, Nat.sub_self]
            rfl
          have hgf : w9.frozen? ⟨g, k, none⟩ = false := by simp [World.frozen?, h9.out]
          have hg9 : g < w9.heap.size := lt_of_block h9.out
          have hk9 : (k : Int) < (i : Int) + 1 := by omega
          have HB10 := Lib.hid hb9
          clear hb9
          go_wp2_with fail
          have hset := set_blk h9.out k (.int .i64 (i : Int))
          have hnew : ((natV (out.take k) ++ X :: (natV (out.drop k) ++ rest)).toArray.setIfInBounds k (.int .i64 (i : Int))) = (natV (ordIns (keyAt x.ks) i out) ++ rest).toArray := by
            rw [hins.out, natV_app, List.setIfInBounds_toArray, List.set_append, if_neg (by rw [natV_len, List.length_take]; omega), natV_len, List.length_take, HOL.out, Nat.min_eq_left hki, Nat.sub_self]
            simp [natV]
          rw [hnew, ← HORD.out] at hset
          have hol' : (ordL x.ks (i + 1)).length = i + 1 := ordL_len _ _
          have hownF := blk_own (base := w.heap.size + 1) (cap := cap) hg1 hset (by rw [hol']; exact hg3) hg4
          rw [hol'] at hownF
          exact ⟨⟨i + 1, some ⟨g, 0, none⟩, cap, by omega, by go_num, rfl, hownF, (HBR.out.trans HB10.out).setCell (p := ⟨g, k, none⟩) hg1 _⟩, by simp [intOf]; omega⟩
    · obtain rfl : i = x.ks.length := by omega
      have hge : ¬ (x.ks.length : Int) < (x.ks.length : Int) := by omega
      go_wp2_with fail
      go_ret
      exact ⟨a, c, by rw [ordL_len]; rfl, by rw [HOUT.out]; exact HSL.out.widen (by omega) (Nat.le_refl _), HBW.out⟩
end Go.Proofs.YtjihepdjcbpgoaaGreatDoor

namespace Go.Proofs.YtjihepdjcbpgoaaGreatDoor
open Go.RowKit Go.Sort

theorem textV_flat (n : Nat) (v : Val) (h7 : v.k ≠ 7) (h8 : v.k ≠ 8) : textV n v = if v.k = 0 then [110, 117, 108, 108] else if v.k = 3 then quoteL v.t.data.toList else v.t.data.toList := by
  cases n with
  | zero => rw [textV]
  | succ n => rw [textV_s, if_neg h7, if_neg h8]

set_option maxRecDepth 100000 in
set_option maxHeartbeats 3200000 in
theorem rtext_flat (n : Nat) (x : AV) (w : World) (_hx : Rd w x) (hw : x.w ≤ 1048576) (h7 : x.k ≠ 7) (h8 : x.k ≠ 8) : Calls Tryz.prog 58 #[x.val] w (Ret (.string ⟨(textV n x.v).toArray⟩) w) := by
  have hts : x.t.size ≤ 1048576 := by have := x.w_t; omega
  have HT := Lib.hid (textV_flat n x.v (by rw [AV.v_k]; exact h7) (by rw [AV.v_k]; exact h8))
  have HWR := fun W => Lib.hid (rwrite_c W x.t hts)
  have hb0 : Below w.heap.size w (w.alloc (.cells #[.int .u8 x.k, .string x.t, .slice x.la x.l.length x.lc, .slice x.ka x.ks.length x.kc] 26)) := (Below.refl _ _).alloc (Nat.le_refl _) _
  have HB0 := Lib.hid hb0
  have g7 : (x.k == 7) = false := by simp [h7]
  have g8 : (x.k == 8) = false := by simp [h8]
  clear hb0
  by_cases h0 : x.k = 0
  · have g0 : (x.k == 0) = true := by simp [h0]
    have HF := Lib.hid (show textV n x.v = [110, 117, 108, 108] by rw [HT.out, AV.v_k, if_pos h0])
    clear h0 h7 h8
    go_enter Tryz.func58, Tryz.ntmps58
    go_wp2_with fail
    go_ret
    exact ⟨by rw [HF.out]; rfl, HB0.out⟩
  · have g0 : (x.k == 0) = false := by simp [h0]
    by_cases h3 : x.k = 3
    · have g3 : (x.k == 3) = true := by simp [h3]
      have HF := Lib.hid (show textV n x.v = quoteL x.t.data.toList by rw [HT.out, AV.v_k, AV.v_t, if_neg h0, if_pos h3])
      clear h0 h3 h7 h8
      go_enter Tryz.func58, Tryz.ntmps58
      go_wp2_with (go_at_call 104; refine (HWR _).out.mono ?_; rintro e w1 ⟨rfl, hb⟩)
      go_ret
      exact ⟨by rw [HF.out]; rfl, below_via HB0.out hb⟩
    · have g3 : (x.k == 3) = false := by simp [h3]
      have HF := Lib.hid (show textV n x.v = x.t.data.toList by rw [HT.out, AV.v_k, AV.v_t, if_neg h0, if_neg h3])
      clear h0 h3 h7 h8
      go_enter Tryz.func58, Tryz.ntmps58
      go_wp2_with fail
      go_ret
      exact ⟨by rw [HF.out]; rfl, HB0.out⟩
def sepL (l : List (List UInt8)) : List UInt8 := l.flatMap fun y => 44 :: y
theorem sepL_snoc (l : List (List UInt8)) (x : List UInt8) : sepL (l ++ [x]) = sepL l ++ [44] ++ x := by simp [sepL, List.flatMap_append]
theorem sepL_comma : ∀ l : List (List UInt8), l ≠ [] → sepL l = 44 :: commaL l
  | [], h => absurd rfl h
  | x :: l, _ => by simp [sepL, commaL]
theorem sepL_len (l : List (List UInt8)) : (sepL l).length = (l.map (·.length + 1)).sum := by
  induction l with
  | nil => rfl
  | cons x l ih =>
    rw [List.map_cons, List.sum_cons, ← ih]
    simp [sepL]
    omega
end Go.Proofs.YtjihepdjcbpgoaaGreatDoor

namespace Go.Proofs.YtjihepdjcbpgoaaGreatDoor
open Go.RowKit Go.Sort

theorem sum_map_le {α : Type} {f g : α → Nat} : ∀ {l : List α}, (∀ x ∈ l, f x ≤ g x) → (l.map f).sum ≤ (l.map g).sum
  | [], _ => Nat.le_refl _
  | x :: l, h => by
    have h1 := h x (by simp)
    have h2 := sum_map_le (l := l) fun y hy => h y (by simp [hy])
    simp only [List.map_cons, List.sum_cons]; omega
theorem sum_take_le {α : Type} (f : α → Nat) : ∀ (l : List α) (m : Nat), ((l.take m).map f).sum ≤ (l.map f).sum
  | [], m => by simp
  | x :: l, 0 => by simp
  | x :: l, m + 1 => by have := sum_take_le f l m; simp only [List.take_succ_cons, List.map_cons, List.sum_cons]; omega
theorem kids_bound (n : Nat) (x : AV) (m : Nat) : (sepL ((x.l.take m).map fun y => textV n y.v)).length ≤ 8 * x.w := by
  rw [sepL_len, List.map_map]
  refine Nat.le_trans (sum_take_le _ x.l m) ?_
  have h1 : (x.l.map ((fun y : List UInt8 => y.length + 1) ∘ fun y : AV => textV n y.v)).sum ≤ (x.l.map fun y : AV => 8 * y.v.w).sum := sum_map_le fun y _ => text_len n y.v
  have h2 := sum_mul (fun y : AV => y.v.w) 8 x.l
  have h3 : x.w = 1 + x.v.t.size + x.v.ks.length + (x.v.ks.map (·.size)).sum + (x.v.l.map Val.w).sum := Val.w_eq x.v
  rw [AV.v_l, List.map_map] at h3
  have h4 : (x.l.map (Val.w ∘ AV.v)).sum = (x.l.map fun y : AV => y.v.w).sum := rfl
  omega
theorem cut_one (l : List UInt8) : ({ data := (44 :: l).toArray } : ByteArray).extract 1 ({ data := (44 :: l).toArray } : ByteArray).size = ⟨l.toArray⟩ := by
  apply ByteArray.ext
  rw [ByteArray.data_extract]
  apply Array.toList_inj.1
  simp [ByteArray.size]

theorem cut_two (l : List UInt8) : ({ data := (44 :: l).toArray } : ByteArray).extract 1 (l.length + 1) = ⟨l.toArray⟩ := by
  have h := cut_one l
  have e : ({ data := (44 :: l).toArray } : ByteArray).size = l.length + 1 := by simp [ByteArray.size]
  rwa [e] at h

set_option maxRecDepth 100000 in
set_option maxHeartbeats 3200000 in
theorem rtext_list (n : Nat) (x : AV) (w : World) (hx : Rd w x) (hw : x.w ≤ 1048576) (h7 : x.k = 7) (ih : ∀ y ∈ x.l, ∀ W, Below w.heap.size w W → Calls Tryz.prog 58 #[y.val] W (Ret (.string ⟨(textV n y.v).toArray⟩) W)) :
    Calls Tryz.prog 58 #[x.val] w (Ret (.string ⟨(textV (n + 1) x.v).toArray⟩) w) := by
  have HI := fun y hy W hb => Lib.hid (ih y hy W hb)
  have HT := Lib.hid (show textV (n + 1) x.v = [91] ++ commaL (x.l.map fun y => textV n y.v) ++ [93] by
    rw [textV_s, AV.v_k, h7, AV.v_l, List.map_map]; rfl)
  have hlb := x.w_l
  have hb0 : Below w.heap.size w (w.alloc (.cells #[.int .u8 x.k, .string x.t, .slice x.la x.l.length x.lc, .slice x.ka x.ks.length x.kc] 26)) := (Below.refl _ _).alloc (Nat.le_refl _) _
  have HB0 := Lib.hid hb0
  have HBX := Lib.hid (heap_alloc_new w (.cells #[.int .u8 x.k, .string x.t, .slice x.la x.l.length x.lc, .slice x.ka x.ks.length x.kc] 26))
  have HX := Lib.hid hx
  have g0 : (x.k == 0) = false := by simp [h7]
  have g3 : (x.k == 3) = false := by simp [h7]
  have g7 : (x.k == 7) = true := by simp [h7]
  have HBD := fun m => Lib.hid (kids_bound n x m)
  clear hb0 h7 ih hx
  go_enter Tryz.func58, Tryz.ntmps58
  go_wp2_with fail
  go_loopw [3, 4] (fun s3 s4 wr => ∃ m : Nat, m ≤ x.l.length ∧ s4 = .int .i64 m ∧ s3 = .string ⟨(sepL ((x.l.take m).map fun y => textV n y.v)).toArray⟩ ∧ Below (w.heap.size + 1) (w.alloc (.cells #[.int .u8 x.k, .string x.t, .slice x.la x.l.length x.lc, .slice x.ka x.ks.length x.kc] 26)) wr) (fun _ s4 _ => x.l.length - (intOf s4).toNat)
  case atStart => exact ⟨0, Nat.zero_le _, by go_num, rfl, Below.refl _ _⟩
  case round =>
    obtain ⟨m, hm, rfl, rfl, hbr⟩ := hrel
    have hsr := hbr.size
    rw [World.size_alloc] at hsr
    have hbw : Below w.heap.size w wr := HB0.out.trans (hbr.mono (by omega))
    obtain ⟨q0, q1, q2, q3, -, -, -, -⟩ := vbox4 ((hbr.block w.heap.size (by omega)).trans HBX.out)
    have hl0 : w.heap.size < wr.heap.size := by omega
    have hbd : (sepL ((x.l.take m).map fun y => textV n y.v)).length ≤ 8388608 := by have := (HBD m).out; omega
    by_cases hlt : m < x.l.length
    · have hk : x.l[m]? = some x.l[m] := List.getElem?_eq_getElem hlt
      have hmem : x.l[m] ∈ x.l := List.getElem_mem hlt
      generalize x.l[m] = y at hk hmem
      obtain ⟨b, off, hla, -, -, hb2, c0, c1, c2, c3⟩ := vals_at HX.out.sl hk
      rw [← hbw.cell (p := ⟨_, _, none⟩) hb2] at c0 c1 c2 c3
      have hbb : b < wr.heap.size := by have := hbw.size; omega
      have hlt' : (m : Int) < (x.l.length : Int) := by omega
      have hm0 : (0 : Int) ≤ (m : Int) := by omega
      have hwm : IntKind.i64.wrap ((m : Int) + 1) = ((m + 1 : Nat) : Int) := by rw [IntWalk.i64_in _ (by omega)]; omega
      have hty : (textV n y.v).length ≤ 8388608 := by
        have h1 := text_len n y.v
        have h2 := AV.w_kid hmem
        have h3 : y.w = y.v.w := rfl
        omega
      have hnext := Lib.hid (show sepL ((x.l.take (m + 1)).map fun y => textV n y.v) = sepL ((x.l.take m).map fun y => textV n y.v) ++ [44] ++ textV n y.v by
        rw [List.take_add_one, hk, List.map_append]
        exact sepL_snoc _ _)
      rw [hla] at q2
      have HC := HI y hmem
      have HBW := Lib.hid hbw
      have HBR := Lib.hid hbr
      generalize sepL ((x.l.take m).map fun y => textV n y.v) = pre at *
      generalize textV n y.v = ty at *
      clear hla hk hmem hbw hbr HI HBD
      go_wp2_with (go_at_call 58; refine (HC _ HBW.out).out.mono ?_; rintro e w1 ⟨rfl, hb⟩)
      exact ⟨⟨m + 1, by omega, by go_num, by rw [hnext.out]; simp [ba_append], HBR.out.trans (hb.mono hsr)⟩, by simp [intOf]; omega⟩
    · obtain rfl : m = x.l.length := by omega
      have hge : ¬ (x.l.length : Int) < (x.l.length : Int) := by omega
      have HBW := Lib.hid hbw
      rw [List.take_length] at hbd
      rw [List.take_length]
      clear hbw hbr HI HBD
      by_cases hn : x.l = []
      · have HE := Lib.hid (show x.l.map (fun y => textV n y.v) = [] by rw [hn]; rfl)
        rw [HE.out]
        rw [HE.out] at HT
        clear hn hbd
        go_wp2_with fail
        go_ret
        exact ⟨by rw [HT.out]; rfl, HBW.out⟩
      · have HC := Lib.hid (sepL_comma (x.l.map fun y => textV n y.v) (by simpa using hn))
        rw [HC.out]
        rw [HC.out] at hbd
        generalize commaL (x.l.map fun y => textV n y.v) = cl at *
        have hcut := Lib.hid (cut_two cl)
        have hbd' : cl.length ≤ 8388608 := by simp at hbd; omega
        clear hn hbd HC
        go_wp2_with fail
        go_ret
        refine ⟨?_, HBW.out⟩
        show Ending.returned (.string ({ data := #[91] } ++ ({ data := (44 :: cl).toArray } : ByteArray).extract 1 (cl.length + 1) ++ { data := #[93] })) = _
        rw [hcut.out, HT.out]
        simp [ba_append]
end Go.Proofs.YtjihepdjcbpgoaaGreatDoor

namespace Go.Proofs.YtjihepdjcbpgoaaGreatDoor
open Go.RowKit Go.Sort

theorem filterMap_at {α β : Type} (f : α → Option β) : ∀ (l : List α) (k : Nat), (∀ a ∈ l, (f a).isSome = true) → (l.filterMap f)[k]? = (l[k]?).bind f
  | [], k, _ => by simp
  | a :: l, k, h => by
    obtain ⟨b, hb⟩ := Option.isSome_iff_exists.1 (h a (by simp))
    rw [List.filterMap_cons, hb]
    cases k with
    | zero => simp [hb]
    | succ k =>
      have := filterMap_at f l k fun a ha => h a (by simp [ha])
      simpa using this
theorem ent_at {x : AV} (hl : x.ks.length = x.l.length) (hn : x.ks.Nodup) {k : Nat} (hk : k < x.ks.length) :
    ∃ j s y, (ordL x.ks x.ks.length)[k]? = some j ∧ j < x.ks.length ∧ x.ks[j]? = some s ∧ x.l[j]? = some y ∧ x.v.ents[k]? = some (s, y.v) := by
  have hkl : k < (ordL x.ks x.ks.length).length := by rw [ordL_len]; exact hk
  have hj : (ordL x.ks x.ks.length)[k]? = some (ordL x.ks x.ks.length)[k] := List.getElem?_eq_getElem hkl
  have hlt := ordL_lt x.ks (List.getElem_mem hkl)
  generalize (ordL x.ks x.ks.length)[k] = j at hj hlt
  have h1 : x.ks[j]? = some x.ks[j] := List.getElem?_eq_getElem hlt
  have h2 : x.l[j]? = some x.l[j] := List.getElem?_eq_getElem (by omega)
  have hz : ∀ j, j < x.ks.length → ((x.v.ks.zip x.v.l)[j]?).isSome = true := fun j h => by
    rw [List.getElem?_eq_getElem (by rw [List.length_zip, AV.v_ks, AV.v_l, List.length_map]; omega)]; rfl
  refine ⟨j, x.ks[j], x.l[j]'(by omega), hj, hlt, h1, h2, ?_⟩
  have e := ord_ents x.v (by rw [AV.v_ks, AV.v_l, List.length_map]; exact hl) (by rw [AV.v_ks]; exact hn)
  rw [AV.v_ks] at e
  rw [AV.v_ks] at hz
  rw [← e, filterMap_at _ _ _ (fun a ha => hz a (ordL_lt x.ks ha)), hj]
  show (x.ks.zip x.v.l)[j]? = _
  exact List.getElem?_zip_eq_some.2 ⟨h1, by rw [AV.v_l, List.getElem?_map, h2]; rfl⟩
abbrev entQ (n : Nat) (e : ByteArray × Val) : List UInt8 := quoteL e.1.data.toList ++ [58] ++ textV n e.2
theorem ents_bound (n : Nat) (x : AV) (m : Nat) : (sepL ((x.v.ents.take m).map (entQ n))).length ≤ 8 * x.w := by
  rw [sepL_len, List.map_map]
  refine Nat.le_trans (sum_take_le _ x.v.ents m) ?_
  have h := ents_text_len n x.v fun y _ => text_len n y
  have h3 : x.w = x.v.w := rfl
  have h4 : (x.v.ents.map ((fun y : List UInt8 => y.length + 1) ∘ entQ n)).sum = (x.v.ents.map fun e => (quoteL e.1.data.toList ++ [58] ++ textV n e.2).length + 1).sum := rfl
  omega

set_option maxRecDepth 100000 in
set_option maxHeartbeats 3200000 in
theorem rtext_map (n : Nat) (x : AV) (w : World) (hx : Rd w x) (hw : x.w ≤ 1048576) (h8 : x.k = 8) (hkl : x.ks.length = x.l.length) (hnd : x.ks.Nodup) (ih : ∀ y ∈ x.l, ∀ W, Below w.heap.size w W → Calls Tryz.prog 58 #[y.val] W (Ret (.string ⟨(textV n y.v).toArray⟩) W)) :
    Calls Tryz.prog 58 #[x.val] w (Ret (.string ⟨(textV (n + 1) x.v).toArray⟩) w) := by
  have HI := fun y hy W hb => Lib.hid (ih y hy W hb)
  have HT := Lib.hid (show textV (n + 1) x.v = [123] ++ commaL (x.v.ents.map (entQ n)) ++ [125] by
    rw [textV_s, AV.v_k, h8]; rfl)
  have hlk := x.w_ks
  have hel : x.v.ents.length = x.ks.length := by
    rw [Val.ents, List.length_mergeSort, List.length_zip, AV.v_ks, AV.v_l, List.length_map]; omega
  have HEL := Lib.hid hel
  have HKL := Lib.hid hkl
  have HAT := fun k (hk : k < x.ks.length) => Lib.hid (ent_at hkl hnd hk)
  have hb0 : Below w.heap.size w (w.alloc (.cells #[.int .u8 x.k, .string x.t, .slice x.la x.l.length x.lc, .slice x.ka x.ks.length x.kc] 26)) := (Below.refl _ _).alloc (Nat.le_refl _) _
  have HB0 := Lib.hid hb0
  have HBX := Lib.hid (heap_alloc_new w (.cells #[.int .u8 x.k, .string x.t, .slice x.la x.l.length x.lc, .slice x.ka x.ks.length x.kc] 26))
  have HX := Lib.hid hx
  have HOR := fun W (h : Below w.heap.size w W) => Lib.hid (order_c x W (hx.up h) (by omega))
  have g0 : (x.k == 0) = false := by simp [h8]
  have g3 : (x.k == 3) = false := by simp [h8]
  have g7 : (x.k == 7) = false := by simp [h8]
  have g8 : (x.k == 8) = true := by simp [h8]
  have HBD := fun m => Lib.hid (ents_bound n x m)
  clear hb0 h8 ih hx hel hkl hnd
  go_enter Tryz.func58, Tryz.ntmps58
  go_wp2_with (go_at_call 97; refine (HOR _ HB0.out).out.mono ?_; rintro e w1 ⟨A, c, rfl, hso, hb1⟩)
  have hb1w : Below w.heap.size w w1 := below_via HB0.out hb1
  have hs1 := hb1.size
  rw [World.size_alloc] at hs1
  have HBX1 := Lib.hid ((hb1.block w.heap.size (by rw [World.size_alloc]; omega)).trans HBX.out)
  have HSO := Lib.hid hso
  have HB1 := Lib.hid hb1w
  have hol := ordL_len x.ks x.ks.length
  rw [hol]
  clear hb1 hb1w hso
  go_loopw [3, 6] (fun s3 s6 wr => ∃ m : Nat, m ≤ x.ks.length ∧ s6 = .int .i64 m ∧ s3 = .string ⟨(sepL ((x.v.ents.take m).map (entQ n))).toArray⟩ ∧ Below w1.heap.size w1 wr) (fun _ s6 _ => x.ks.length - (intOf s6).toNat)
  case atStart => exact ⟨0, Nat.zero_le _, by go_num, rfl, Below.refl _ _⟩
  case round =>
    obtain ⟨m, hm, rfl, rfl, hbr⟩ := hrel
    have hsr := hbr.size
    have hbw : Below w.heap.size w wr := below_via HB1.out hbr
    obtain ⟨q0, q1, q2, q3, -, -, -, -⟩ := vbox4 ((hbr.block w.heap.size (by omega)).trans HBX1.out)
    have hl0 : w.heap.size < wr.heap.size := by omega
    have hbd : (sepL ((x.v.ents.take m).map (entQ n))).length ≤ 8388608 := by have := (HBD m).out; omega
    by_cases hlt : m < x.ks.length
    · obtain ⟨j, s, y, hj, hjl, hks, hkl, he⟩ := (HAT m hlt).out
      have hmem : y ∈ x.l := List.mem_of_getElem? hkl
      have hjl2 : (j : Int) < (x.l.length : Int) := by have := HKL.out; omega
      have hjl3 : (j : Int) < (x.ks.length : Int) := by omega
      have hj0 : (0 : Int) ≤ (j : Int) := by omega
      obtain ⟨ob, oo, hoa, -, -, o2, oc⟩ := nat_at HSO.out hj
      have oc1 := (hbr.cell (p := ⟨ob, oo + m, none⟩) o2).trans oc
      have hob : ob < wr.heap.size := by omega
      obtain ⟨kb, ko, hka, -, -, k2, kc⟩ := key_at HX.out.keys hks
      obtain ⟨b, off, hla, -, -, hb2, c0, c1, c2, c3⟩ := vals_at HX.out.sl hkl
      rw [← hbw.cell (p := ⟨_, _, none⟩) hb2] at c0 c1 c2 c3
      rw [← hbw.cell (p := ⟨_, _, none⟩) k2] at kc
      have hsw := hbw.size
      have hkb : kb < wr.heap.size := by omega
      have hbb : b < wr.heap.size := by omega
      have hlt' : (m : Int) < (x.ks.length : Int) := by omega
      have hm0 : (0 : Int) ≤ (m : Int) := by omega
      have hwm : IntKind.i64.wrap ((m : Int) + 1) = ((m + 1 : Nat) : Int) := by rw [IntWalk.i64_in _ (by omega)]; omega
      have hty : (textV n y.v).length ≤ 8388608 := by
        have h1 := text_len n y.v
        have h2 := AV.w_kid hmem
        have h3 : y.w = y.v.w := rfl
        omega
      have hssz : s.size ≤ 1048576 := by have := AV.w_key (List.mem_of_getElem? hks); omega
      have hqy : (quoteL s.data.toList).length ≤ 8388608 := by
        have h1 := quoteL_len s.data.toList
        rw [ba_size] at h1
        omega
      have HWR := fun W => Lib.hid (rwrite_c W s hssz)
      have hnext := Lib.hid (show sepL ((x.v.ents.take (m + 1)).map (entQ n)) = sepL ((x.v.ents.take m).map (entQ n)) ++ [44] ++ (quoteL s.data.toList ++ [58] ++ textV n y.v) by
        rw [List.take_add_one, he, List.map_append]
        exact sepL_snoc _ _)
      rw [hla] at q2
      rw [hka] at q3
      have HC := HI y hmem
      have HBW := Lib.hid hbw
      have HBR := Lib.hid hbr
      have HOA := Lib.hid hoa
      rw [hoa]
      generalize sepL ((x.v.ents.take m).map (entQ n)) = pre at *
      generalize textV n y.v = ty at *
      generalize quoteL s.data.toList = qs at *
      clear hla hka hkl hks hj hmem hbw hbr HI HBD HAT he hoa hol
      have hm1 : ¬ 9223372036854775807 < pre.length + 1 := by omega
      have hm2 : ¬ 9223372036854775807 < pre.length + 1 + qs.length := by omega
      have hm3 : ¬ 9223372036854775807 < pre.length + 1 + qs.length + 1 := by omega
      have hm4 : ¬ 9223372036854775807 < pre.length + 1 + qs.length + 1 + ty.length := by omega
      go_upto_region 20 with fail
      go_region_held3 (fun w' => (∀ b o, b < wr.heap.size → w'.cell? ⟨b, o, none⟩ = wr.cell? ⟨b, o, none⟩) ∧ Below wr.heap.size wr w')
        (first | (with_reducible exact Q2.out) | (with_reducible exact Q1.out) | (with_reducible exact s_drew))
        (first
          | (go_at_call 104; refine (HWR _).out.mono ?_; rintro e w3 ⟨rfl, hb3⟩; have Q1 := Lib.hid (s_step (Nat.le_refl _) (by assumption) hb3))
          | (go_at_call 58; refine (HC _ (s_below (N := wr.heap.size) HBW.out (by omega) (by assumption))).out.mono ?_; rintro e w4 ⟨rfl, hb4⟩; have Q2 := Lib.hid (s_step (Nat.le_refl _) (by assumption) hb4)))
      all_goals go_wp2_with fail
      all_goals exact ⟨⟨m + 1, by omega, by go_num, by rw [hnext.out]; simp [ba_append], HBR.out.trans (Q2.out.2.mono hsr)⟩, by simp [intOf]; omega⟩
    · obtain rfl : m = x.ks.length := by omega
      have hge : ¬ (x.ks.length : Int) < (x.ks.length : Int) := by omega
      have HBW := Lib.hid hbw
      rw [← HEL.out, List.take_length] at hbd
      rw [show x.v.ents.take x.ks.length = x.v.ents by rw [← HEL.out, List.take_length]]
      clear hbw hbr HI HBD HAT
      by_cases hn : x.v.ents = []
      · have HE := Lib.hid (show x.v.ents.map (entQ n) = [] by rw [hn]; rfl)
        rw [HE.out]
        rw [HE.out] at HT
        clear hn hbd hol
        go_wp2_with fail
        go_ret
        exact ⟨by rw [HT.out]; rfl, HBW.out⟩
      · have HC := Lib.hid (sepL_comma (x.v.ents.map (entQ n)) (by simpa using hn))
        rw [HC.out]
        rw [HC.out] at hbd
        generalize commaL (x.v.ents.map (entQ n)) = cl at *
        have hcut := Lib.hid (cut_two cl)
        have hbd' : cl.length ≤ 8388608 := by simp at hbd; omega
        clear hn hbd HC hol
        go_wp2_with fail
        go_ret
        refine ⟨?_, HBW.out⟩
        show Ending.returned (.string ({ data := #[123] } ++ ({ data := (44 :: cl).toArray } : ByteArray).extract 1 (cl.length + 1) ++ { data := #[125] })) = _
        rw [hcut.out, HT.out]
        simp [ba_append]

theorem rtext_c : ∀ (n : Nat) (x : AV) (w : World), x.v.within n = true → Rd w x → x.w ≤ 1048576 → Calls Tryz.prog 58 #[x.val] w (Ret (.string ⟨(textV n x.v).toArray⟩) w) := by
  intro n
  induction n with
  | zero =>
    intro x w h hx hw
    rw [Val.within_0, Bool.and_eq_true, AV.v_k, decide_eq_true_eq] at h
    exact rtext_flat 0 x w hx hw (by omega) (by omega)
  | succ n ih =>
    intro x w h hx hw
    obtain ⟨sh, hk⟩ := within_k h
    have hi : ∀ y ∈ x.l, ∀ W, Below w.heap.size w W → Calls Tryz.prog 58 #[y.val] W (Ret (.string ⟨(textV n y.v).toArray⟩) W) := fun y hy W hb =>
      ih y W (hk y.v (by rw [AV.v_l]; exact List.mem_map_of_mem hy)) (hx.kid_at hb hy) (Nat.le_trans (Nat.le_of_lt (AV.w_kid hy)) hw)
    by_cases h7 : x.k = 7
    · exact rtext_list n x w hx hw h7 hi
    · by_cases h8 : x.k = 8
      · obtain ⟨_, hl8, hn8⟩ := shape_map sh (by rw [AV.v_k]; exact h8)
        rw [AV.v_ks] at hl8 hn8
        rw [AV.v_l, List.length_map] at hl8
        exact rtext_map n x w hx hw h8 hl8 hn8 hi
      · exact rtext_flat (n + 1) x w hx hw h7 h8

set_option maxRecDepth 100000 in
set_option maxHeartbeats 3200000 in
theorem rText_c (x : AV) (w : World) (hx : Rd w x) (hw : x.w ≤ 1048576) : Calls Tryz.prog 23 #[x.val] w (Ret (.string ⟨(textR x.v).toArray⟩) w) := by
  have hb0 : Below w.heap.size w (w.alloc (.cells #[.int .u8 x.k, .string x.t, .slice x.la x.l.length x.lc, .slice x.ka x.ks.length x.kc] 26)) := (Below.refl _ _).alloc (Nat.le_refl _) _
  have HB0 := Lib.hid hb0
  have HBX := Lib.hid (heap_alloc_new w (.cells #[.int .u8 x.k, .string x.t, .slice x.la x.l.length x.lc, .slice x.ka x.ks.length x.kc] 26))
  have HM := fun W (h : Below w.heap.size w W) => Lib.hid (rmay_c x W (hx.up h) hw)
  clear hb0
  cases hm : x.v.may with
  | false =>
    have HF := Lib.hid (show textR x.v = [] by unfold textR; rw [hm]; simp)
    rw [hm] at HM
    clear hm hx
    go_enter Tryz.func23, Tryz.ntmps23
    go_wp2_with (go_at_call 13; refine (HM _ HB0.out).out.mono ?_; rintro e w2 ⟨rfl, hb⟩)
    go_ret
    exact ⟨by rw [HF.out]; rfl, below_via HB0.out hb⟩
  | true =>
    have HF := Lib.hid (show textR x.v = textV 256 x.v by unfold textR; rw [hm]; simp)
    have hwi : x.v.within 256 = true := by rw [Val.may_eq]; exact hm
    have HTX := fun W (h : Below w.heap.size w W) => Lib.hid (rtext_c 256 x W hwi (hx.up h) hw)
    rw [hm] at HM
    clear hm hx hwi
    go_enter Tryz.func23, Tryz.ntmps23
    go_wp2_with (first
      | (go_at_call 13; refine (HM _ HB0.out).out.mono ?_; rintro e w2 ⟨rfl, hb⟩
         have hbw := below_via HB0.out hb
         have hs2 := hb.size
         rw [World.size_alloc] at hs2
         have gl : w.heap.size < w2.heap.size := by omega
         obtain ⟨q0, q1, q2, q3, -, -, -, -⟩ := vbox4 ((hb.block w.heap.size (by rw [World.size_alloc]; omega)).trans HBX.out))
      | (go_at_call 58; refine (HTX _ hbw).out.mono ?_; rintro e w3 ⟨rfl, hb3⟩))
    go_ret
    exact ⟨by rw [HF.out]; rfl, below_via hbw hb3⟩
end Go.Proofs.YtjihepdjcbpgoaaGreatDoor
