/-
  inarchlaw23.Great: a contract; a list of twins can be read. Conditions: the lists lie in memory, lengths and weights are bounded.
  Strings as values; the laws' words: contracts. Conditions: the texts lie in memory, lengths are bounded.
  inarchlaw27's merged, in, equal, lives; inarchlaw23.Great tells that lists are short: contracts. Conditions: the lists lie in memory, lengths and weights are bounded; strconv's table of powers holds what its initialiser lays.
  inarchlaw23.Great tells that lists are short; what a merged set has, plain. Conditions: the lists lie in memory, lengths and weights are bounded.
-/
import Derived.Test.YtjihepdjcbpgoaaGreatDoorKF
import Derived.Test.YtjihepdjcbpgoaaGreatDoorVF
import Derived.Test.YtjihepdjcbpgoaaGreatDoorVO
import Derived.Test.YtjihepdjcbpgoaaGreatDoorTD
import Derived.Test.YtjihepdjcbpgoaaGreatDoorTC
import Derived.Test.YtjihepdjcbpgoaaGreatDoorOA
import Derived.Test.YtjihepdjcbpgoaaGreatDoorYJ
namespace Go.Proofs.YtjihepdjcbpgoaaGreatDoor
open Go.RowKit Go.Sort

theorem LA.Tw.rd {w w2 : World} {t x : LA} (h : t.Tw w 0 w.heap.size) (he : t.v = x.v) (hx : x.Rd w2) : t.Rd w := by
  refine ⟨sl_front h.sl, ?_, fun y hy => ⟨(h.kid y hy).rd, ?_⟩⟩
  · have := congrArg List.length he
    rw [LA.v, LA.v, List.length_map, List.length_map] at this
    rw [this]; exact hx.len
  · have hm : y.v ∈ x.v := by rw [← he, LA.v]; exact List.mem_map_of_mem hy
    obtain ⟨z, hz, e⟩ := List.mem_map.1 hm
    have : y.w = z.w := by show y.v.w = z.v.w; rw [e]
    rw [this]; exact (hx.kids z hz).2
theorem LA.Tw.blw {w w' : World} {lo hi B : Nat} {x : LA} (h : x.Tw w lo hi) (hb : Below B w w') (hB : hi ≤ B) : x.Tw w' lo hi := ⟨h.sl.below hb hB, h.cap, fun y hy => (h.kid y hy).blw hb hB⟩

set_option maxRecDepth 100000 in
set_option maxHeartbeats 3200000 in
theorem great23_c (w : World) (A : Option Addr) (c : Nat) (L : List LA) (h : SlE LA.enc 1 w 0 w.heap.size A L) (hL : ∀ q ∈ L, q.Rd w) (hl : L.length ≤ 1048576) : Calls Tryz.prog 30 #[.slice A L.length c] w (RetB w) := by
  have H := Lib.hid h
  have HL := Lib.hid hL
  clear h hL
  go_enter Tryz.func30, Tryz.ntmps30
  go_wp2_with fail
  go_loopw [3, 4, 5] (fun s3 s4 _ wr => ∃ n i : Nat, i ≤ L.length ∧ s3 = .int .i64 n ∧ s4 = .int .i64 i ∧ n ≤ 1050079 ∧ Below w.heap.size w wr) (fun _ s4 _ _ => L.length - (intOf s4).toNat)
  case atStart => exact ⟨0, 0, Nat.zero_le _, rfl, rfl, by omega, Below.refl _ _⟩
  case round =>
    obtain ⟨n, i, hi, rfl, rfl, hn, hb⟩ := hrel
    by_cases hlt : i < L.length
    · have hlt' : (i : Int) < (L.length : Int) := by omega
      have hk : L[i]? = some L[i] := List.getElem?_eq_getElem hlt
      have hmem : L[i] ∈ L := List.getElem_mem hlt
      generalize L[i] = q at *
      obtain ⟨b, off, hla, -, hb1, hb2, h0⟩ := la_at H.out hk
      have hq := HL.out q hmem
      have HQ := Lib.hid hq
      have hqs := hq.sl
      have hql := hq.len
      have HB := Lib.hid hb
      have HQS := Lib.hid hqs
      clear hq hqs hk hmem hb
      rw [hla]
      go_wp2_with fail
      go_loopw [3, 5] (fun s3 s5 wi => ∃ n k : Nat, k ≤ q.l.length ∧ s3 = .int .i64 n ∧ s5 = .int .i64 k ∧ n ≤ 1050079 ∧ Below w.heap.size w wi) (fun _ s5 _ => q.l.length - (intOf s5).toNat)
      case atStart => exact ⟨n, 0, Nat.zero_le _, rfl, rfl, hn, HB.out⟩
      case round =>
        obtain ⟨n, k, hk, rfl, rfl, hn, hb⟩ := hrel
        have h0' := (hb.cell (p := ⟨_, _, none⟩) hb2).trans h0
        have hbb : b < wr.heap.size := Nat.lt_of_lt_of_le hb2 hb.size
        by_cases hkl : k < q.l.length
        · have hkl' : (k : Int) < (q.l.length : Int) := by omega
          by_cases hn15 : n < 1500
          · have hn15' : (n : Int) < 1500 := by omega
            have hk2 : q.l[k]? = some q.l[k] := List.getElem?_eq_getElem hkl
            have hmem : q.l[k] ∈ q.l := List.getElem_mem hkl
            generalize q.l[k] = y at *
            obtain ⟨b2, off2, hla2, -, hc1, hc2, g0, g1, g2, g3⟩ := vals_at HQS.out hk2
            rw [← hb.cell (p := ⟨_, _, none⟩) hc2] at g0 g1 g2 g3
            have hbb2 : b2 < wr.heap.size := Nat.lt_of_lt_of_le hc2 hb.size
            obtain ⟨hyr, hyw⟩ := HQ.out.kids y hmem
            have HWT := Lib.hid (weight_c y wr (hyr.up hb) hyw)
            have hyw2 : y.v.w ≤ 1048576 := hyw
            have HBB := Lib.hid hb
            rw [hla2] at h0'
            clear hb hk2 hmem hla2 hyr hyw
            have hw1 : IntKind.i64.wrap ((n : Int) + 3) = ((n + 3 : Nat) : Int) := by rw [IntWalk.i64_in _ (by omega)]; omega
            have hwk : IntKind.i64.wrap ((k : Int) + 1) = ((k + 1 : Nat) : Int) := by rw [IntWalk.i64_in _ (by omega)]; omega
            go_wp2_with (go_at_call 45; refine HWT.out.mono ?_; rintro e w2 ⟨r, hr, rfl, hb3⟩
                         have hr2 : r ≤ y.v.w := hr.1
                         have hw2 : IntKind.i64.wrap (((n + 3 : Nat) : Int) + (r : Int)) = ((n + 3 + r : Nat) : Int) := by rw [IntWalk.i64_in _ (by omega)]; omega)
            exact ⟨⟨n + 3 + r, k + 1, by omega, by go_num, by go_num, by omega, below_via HBB.out hb3⟩, by simp [intOf]; omega⟩
          · have hn15' : ¬ (n : Int) < 1500 := by omega
            have hwi : IntKind.i64.wrap ((i : Int) + 1) = ((i + 1 : Nat) : Int) := by rw [IntWalk.i64_in _ (by omega)]; omega
            go_wp2_with fail
            exact ⟨⟨n, i + 1, by omega, rfl, by go_num, hn, hb⟩, by simp [intOf]; omega⟩
        · have hkl' : ¬ (k : Int) < (q.l.length : Int) := by omega
          have hwi : IntKind.i64.wrap ((i : Int) + 1) = ((i + 1 : Nat) : Int) := by rw [IntWalk.i64_in _ (by omega)]; omega
          go_wp2_with fail
          exact ⟨⟨n, i + 1, by omega, rfl, by go_num, hn, hb⟩, by simp [intOf]; omega⟩
    · have hge : ¬ (i : Int) < (L.length : Int) := by omega
      go_wp2_with fail
      go_ret
      exact ⟨_, rfl, hb⟩
end Go.Proofs.YtjihepdjcbpgoaaGreatDoor

namespace Go.Proofs.YtjihepdjcbpgoaaGreatDoor
open Go.RowKit Go.Sort

/-- A text, as a value. -/
def wordV (b : ByteArray) : Val := ⟨3, b, [], []⟩
theorem word_may (b : ByteArray) : (wordV b).may = true := by
  rw [← Val.may_eq, plain_within]
  simp [Val.deepR_eq, Val.plain_eq, wordV, Val.shape]
theorem canon_word (b : ByteArray) : ∀ n, canon n (wordV b) = wordV b
  | 0 => rfl
  | n + 1 => by rw [canon_s, if_neg (by simp [wordV])]; rfl
theorem word_cmp (b c : ByteArray) : cmpV 256 (wordV b) (wordV c) = 0 ↔ b = c := by
  rw [cmpV_zero 256 _ _ (by rw [Val.may_eq]; exact word_may b) (by rw [Val.may_eq]; exact word_may c), canon_word, canon_word]
  constructor
  · intro h; exact congrArg Val.t h
  · intro h; rw [h]
theorem word_key (b c : ByteArray) : (wordV b).key = (wordV c).key ↔ b = c := by
  rw [key_same (word_may b) (word_may c), word_cmp]
def wordA (b : ByteArray) : AV := ⟨3, b, none, 0, [], none, 0, []⟩
def MadeW (ss : List ByteArray) (w : World) (e : Ending) (w' : World) : Prop := ∃ y : LA, e = .returned (.slice y.a y.l.length y.c) ∧ y.v = ss.map wordV ∧ y.Rd w' ∧ Below w.heap.size w w'
theorem word_rd (b : ByteArray) (w : World) (hb : b.size ≤ 1000) : Go.Proofs.YtjihepdjcbpgoaaGreatDoor.Rd w (wordA b) ∧ (wordA b).w ≤ 1048576 := by
  refine ⟨leaf_in _ _ (by simp), ?_⟩
  show (wordA b).v.w ≤ _
  rw [Val.w_eq]
  simp [wordA, AV.v_eq]
  omega
set_option maxRecDepth 100000 in
set_option maxHeartbeats 3200000 in
theorem words27_c (w : World) (A : Option Addr) (c0 : Nat) (ss : List ByteArray) (h : SlE strE 1 w 0 w.heap.size A ss) (hl : ss.length ≤ 1000) (hss : ∀ s ∈ ss, s.size ≤ 1000) : Calls Tryz.prog 63 #[.slice A ss.length c0] w (MadeW ss w) := by
  have H := Lib.hid h
  have HSS := Lib.hid hss
  clear h hss
  go_enter Tryz.func63, Tryz.ntmps63
  go_wp2_with fail
  go_loopw [3, 4] (fun s3 s4 wr => ∃ (i : Nat) (ys : List AV) (a : Option Addr) (c : Nat), i ≤ ss.length ∧ s4 = .int .i64 i ∧ ys = (ss.take i).map wordA ∧ s3 = .slice a ys.length c ∧ OwnV wr w.heap.size (.slice a ys.length c) ys ∧ Below w.heap.size w wr) (fun _ s4 _ => ss.length - (intOf s4).toNat)
  case atStart => exact ⟨0, [], none, 0, Nat.zero_le _, by go_num, rfl, rfl, ⟨rfl, .inl ⟨rfl, rfl⟩⟩, Below.refl _ _⟩
  case round =>
    obtain ⟨i, ys, a, c, hi, rfl, hys, rfl, hown, hb⟩ := hrel
    have hyl : ys.length = i := by rw [hys, List.length_map, List.length_take]; omega
    have HYS := Lib.hid hys
    have HYL := Lib.hid hyl
    have HOW := Lib.hid hown
    have HB := Lib.hid hb
    have hsz := hb.size
    by_cases hlt : i < ss.length
    · have hlt' : (i : Int) < (ss.length : Int) := by omega
      have hi0 : (0 : Int) ≤ (i : Int) := by omega
      have hwi : IntKind.i64.wrap ((i : Int) + 1) = ((i + 1 : Nat) : Int) := by rw [IntWalk.i64_in _ (by omega)]; omega
      have hk : ss[i]? = some ss[i] := List.getElem?_eq_getElem hlt
      have htk : ss.take (i + 1) = ss.take i ++ [ss[i]] := by rw [List.take_add_one, hk]; rfl
      generalize ss[i] = s at *
      obtain ⟨b, off, hla, -, -, hb2, ct⟩ := key_at H.out hk
      rw [← hb.cell (p := ⟨_, _, none⟩) hb2] at ct
      have hbb : b < wr.heap.size := by omega
      obtain ⟨z, hz⟩ : ∃ z, z = wordA s := ⟨_, rfl⟩
      have hba := (Below.refl wr.heap.size wr).alloc (Nat.le_refl _) (.cells #[.int .u8 3, .string s, .slice none 0 0, .slice none 0 0] 26)
      have hlit : SlE AV.enc 4 (wr.alloc (.cells #[.int .u8 3, .string s, .slice none 0 0, .slice none 0 0] 26)) wr.heap.size (wr.heap.size + 1) (some ⟨wr.heap.size, 0, none⟩) [z] := by
        rw [hz]
        exact lit_sl (enc := AV.enc) (size := 4) (l := [wordA s]) (t := 26) (fr := (0, 0)) AV.enc_len (heap_alloc_new _ _)
      obtain ⟨v', W', hrun, hown', hgr, -⟩ := app_val (c := 1) (own_below hown hba) hlit (by simp; omega) (by simp; omega)
      obtain ⟨ys', hys'⟩ : ∃ ys', ys' = ys ++ [z] := ⟨_, rfl⟩
      rw [← hys'] at hown'
      obtain ⟨a', c', rfl⟩ := own_formV hown'
      have HYS' := Lib.hid hys'
      have HZ := Lib.hid hz
      have HOW' := Lib.hid hown'
      have HGR := Lib.hid hgr
      have HBA := Lib.hid hba
      have HTK := Lib.hid htk
      clear hys hyl hown hb hba hlit hys' hz hown' hgr hk htk
      subst hla
      go_wp2_with (at_builtin; refine wl_append (s := .tmp 11) (x := .tmp 17) rfl rfl (hrun _) ?_; clear hrun)
      refine ⟨⟨i + 1, ys', a', c', by omega, by go_num, ?_, rfl, HOW'.out, ?_⟩, by simp [intOf]; omega⟩
      · rw [HYS'.out, HYS.out, HZ.out, HTK.out, List.map_append]; rfl
      · exact (HB.out.trans (HBA.out.mono HB.out.size)).grown HGR.out (by have := HBA.out.size; omega) (fun q hq => (World.ownsRow.lt HOW.out q hq).1)
    · obtain rfl : i = ss.length := by omega
      have hge : ¬ (ss.length : Int) < (ss.length : Int) := by omega
      clear hys hyl hown hb
      go_wp2_with fail
      go_ret
      have hye := HYS.out
      rw [List.take_length] at hye
      refine ⟨⟨a, ys, c⟩, rfl, ?_, ⟨(own_sl AV.enc_len HOW.out).widen (Nat.zero_le _) (Nat.le_refl _), by show ys.length ≤ _; rw [HYL.out]; omega, fun y hy => ?_⟩, HB.out⟩
      · show ys.map AV.v = _
        rw [hye, List.map_map]
        exact List.map_congr_left fun s _ => by simp [wordA, wordV, AV.v_eq]
      · have hy' : y ∈ ys := hy
        rw [hye] at hy'
        obtain ⟨s, hs, rfl⟩ := List.mem_map.1 hy'
        exact word_rd _ _ (HSS.out s hs)
set_option maxRecDepth 100000 in
set_option maxHeartbeats 3200000 in
theorem words23_c (w : World) (A : Option Addr) (c0 : Nat) (ss : List ByteArray) (h : SlE strE 1 w 0 w.heap.size A ss) (hl : ss.length ≤ 1000) (hss : ∀ s ∈ ss, s.size ≤ 1000) : Calls Tryz.prog 77 #[.slice A ss.length c0] w (MadeW ss w) := by
  have H := Lib.hid h
  have HSS := Lib.hid hss
  clear h hss
  go_enter Tryz.func77, Tryz.ntmps77
  go_wp2_with fail
  go_loopw [3, 4] (fun s3 s4 wr => ∃ (i : Nat) (ys : List AV) (a : Option Addr) (c : Nat), i ≤ ss.length ∧ s4 = .int .i64 i ∧ ys = (ss.take i).map wordA ∧ s3 = .slice a ys.length c ∧ OwnV wr w.heap.size (.slice a ys.length c) ys ∧ Below w.heap.size w wr) (fun _ s4 _ => ss.length - (intOf s4).toNat)
  case atStart => exact ⟨0, [], none, 0, Nat.zero_le _, by go_num, rfl, rfl, ⟨rfl, .inl ⟨rfl, rfl⟩⟩, Below.refl _ _⟩
  case round =>
    obtain ⟨i, ys, a, c, hi, rfl, hys, rfl, hown, hb⟩ := hrel
    have hyl : ys.length = i := by rw [hys, List.length_map, List.length_take]; omega
    have HYS := Lib.hid hys
    have HYL := Lib.hid hyl
    have HOW := Lib.hid hown
    have HB := Lib.hid hb
    have hsz := hb.size
    by_cases hlt : i < ss.length
    · have hlt' : (i : Int) < (ss.length : Int) := by omega
      have hi0 : (0 : Int) ≤ (i : Int) := by omega
      have hwi : IntKind.i64.wrap ((i : Int) + 1) = ((i + 1 : Nat) : Int) := by rw [IntWalk.i64_in _ (by omega)]; omega
      have hk : ss[i]? = some ss[i] := List.getElem?_eq_getElem hlt
      have htk : ss.take (i + 1) = ss.take i ++ [ss[i]] := by rw [List.take_add_one, hk]; rfl
      generalize ss[i] = s at *
      obtain ⟨b, off, hla, -, -, hb2, ct⟩ := key_at H.out hk
      rw [← hb.cell (p := ⟨_, _, none⟩) hb2] at ct
      have hbb : b < wr.heap.size := by omega
      obtain ⟨z, hz⟩ : ∃ z, z = wordA s := ⟨_, rfl⟩
      have hba := (Below.refl wr.heap.size wr).alloc (Nat.le_refl _) (.cells #[.int .u8 3, .string s, .slice none 0 0, .slice none 0 0] 26)
      have hlit : SlE AV.enc 4 (wr.alloc (.cells #[.int .u8 3, .string s, .slice none 0 0, .slice none 0 0] 26)) wr.heap.size (wr.heap.size + 1) (some ⟨wr.heap.size, 0, none⟩) [z] := by
        rw [hz]
        exact lit_sl (enc := AV.enc) (size := 4) (l := [wordA s]) (t := 26) (fr := (0, 0)) AV.enc_len (heap_alloc_new _ _)
      obtain ⟨v', W', hrun, hown', hgr, -⟩ := app_val (c := 1) (own_below hown hba) hlit (by simp; omega) (by simp; omega)
      obtain ⟨ys', hys'⟩ : ∃ ys', ys' = ys ++ [z] := ⟨_, rfl⟩
      rw [← hys'] at hown'
      obtain ⟨a', c', rfl⟩ := own_formV hown'
      have HYS' := Lib.hid hys'
      have HZ := Lib.hid hz
      have HOW' := Lib.hid hown'
      have HGR := Lib.hid hgr
      have HBA := Lib.hid hba
      have HTK := Lib.hid htk
      clear hys hyl hown hb hba hlit hys' hz hown' hgr hk htk
      subst hla
      go_wp2_with (at_builtin; refine wl_append (s := .tmp 11) (x := .tmp 17) rfl rfl (hrun _) ?_; clear hrun)
      refine ⟨⟨i + 1, ys', a', c', by omega, by go_num, ?_, rfl, HOW'.out, ?_⟩, by simp [intOf]; omega⟩
      · rw [HYS'.out, HYS.out, HZ.out, HTK.out, List.map_append]; rfl
      · exact (HB.out.trans (HBA.out.mono HB.out.size)).grown HGR.out (by have := HBA.out.size; omega) (fun q hq => (World.ownsRow.lt HOW.out q hq).1)
    · obtain rfl : i = ss.length := by omega
      have hge : ¬ (ss.length : Int) < (ss.length : Int) := by omega
      clear hys hyl hown hb
      go_wp2_with fail
      go_ret
      have hye := HYS.out
      rw [List.take_length] at hye
      refine ⟨⟨a, ys, c⟩, rfl, ?_, ⟨(own_sl AV.enc_len HOW.out).widen (Nat.zero_le _) (Nat.le_refl _), by show ys.length ≤ _; rw [HYL.out]; omega, fun y hy => ?_⟩, HB.out⟩
      · show ys.map AV.v = _
        rw [hye, List.map_map]
        exact List.map_congr_left fun s _ => by simp [wordA, wordV, AV.v_eq]
      · have hy' : y ∈ ys := hy
        rw [hye] at hy'
        obtain ⟨s, hs, rfl⟩ := List.mem_map.1 hy'
        exact word_rd _ _ (HSS.out s hs)
end Go.Proofs.YtjihepdjcbpgoaaGreatDoor

namespace Go.Proofs.YtjihepdjcbpgoaaGreatDoor
open Go.RowKit Go.Sort

/-- What lies in a block of the call's own reads as the list. -/
theorem ownC_sl {α : Type} {enc : α → List Value} {size : Nat} (henc : ∀ x, (enc x).length = size) (_hs0 : 0 < size) {w : World} {base e cap : Nat} {a : Option Addr} {l : List α} (h : OwnC w base e size a l.length cap (l.flatMap enc)) : SlE enc size w base w.heap.size a l := fun hl => by
  obtain ⟨h1, h2, h3⟩ := h
  obtain ⟨g, cur, e1, hb, hh, hc, ht⟩ := h3 (by omega)
  have hg : g < w.heap.size := by
    rcases Nat.lt_or_ge g w.heap.size with h | h
    · exact h
    · rw [Array.getElem?_eq_none h] at hh; cases hh
  refine ⟨g, 0, e1, hb, hg, hg, fun i x hx j u hu => ?_⟩
  have hj : j < size := by rw [← henc x]; exact (List.getElem?_eq_some_iff.1 hu).1
  have hi : i < l.length := (List.getElem?_eq_some_iff.1 hx).1
  have hlt : i * size + j < l.length * size := by
    have := Nat.mul_le_mul_right size (show i + 1 ≤ l.length by omega)
    rw [Nat.add_mul] at this; omega
  rw [show 0 + i * size + j = i * size + j by omega]
  have h5 : (l.flatMap enc)[i * size + j]? = some u := by rw [flat_get henc l i j x hx hj, hu]
  rw [← ht, List.getElem?_take, if_pos hlt] at h5
  simp only [World.cell?, hh]
  simpa using h5
theorem picks_sides {b l r : List Val} {u : Int} {P : List Pk} (h : PicksAre b l r u P) : ∀ p ∈ P, 0 ≤ p.side ∧ p.side ≤ 255 := by
  obtain ⟨F, rfl, f1, f2, f3⟩ := h
  have s1 : ∀ p ∈ fresh1 (keysV b) (keysV l) (keysV r), 0 ≤ p.side ∧ p.side ≤ 255 := fun p hp => by
    rcases List.mem_append.1 hp with hp | hp <;> obtain ⟨s, -, rfl⟩ := List.mem_map.1 hp <;> simp [pkS]
  have s2 : ∀ p ∈ fresh2 (keysV b) (keysV l) (keysV r), 0 ≤ p.side ∧ p.side ≤ 255 := fun p hp => by
    rcases List.mem_append.1 hp with hp | hp <;> obtain ⟨s, -, rfl⟩ := List.mem_map.1 hp <;> simp [pkS]
  intro p hp
  rcases List.mem_append.1 hp with hp | hp
  · obtain ⟨s, -, rfl⟩ := List.mem_map.1 hp; simp [pkS]
  · by_cases h1 : u = 1
    · rw [f1 h1] at hp; exact s1 p hp
    by_cases h2 : u = 2
    · rw [f2 h2] at hp; exact s2 p hp
    exact s1 p ((f3 h1 h2).1.subset hp)
/-- What merged hands back. -/
def MgPost (b l r : List Val) (u : Int) (w : World) (e : Ending) (w' : World) : Prop :=
  ∃ (ys : List AV) (a : Option Addr), e = .returned (.slice a ys.length ys.length) ∧ (anyBad (b ++ l ++ r) = true → ys = []) ∧
    (anyBad (b ++ l ++ r) = false → Merged (keysV b) (keysV l) (keysV r) u (keysV (ys.map AV.v)) ∧ ∀ v ∈ ys.map AV.v, v ∈ l ∨ v ∈ r) ∧
    SlE AV.enc 4 w' 0 w'.heap.size a ys ∧ (∀ y ∈ ys, Go.Proofs.YtjihepdjcbpgoaaGreatDoor.Rd w' y ∧ y.w ≤ 1048576) ∧ ys.length ≤ l.length + r.length ∧ Below w.heap.size w w'
theorem nodup_le : ∀ {K L : List ByteArray}, K.Nodup → (∀ s ∈ K, s ∈ L) → K.length ≤ L.length
  | [], _, _, _ => Nat.zero_le _
  | s :: K, L, h, hs => by
    have h' := List.nodup_cons.1 h
    have hm := hs s List.mem_cons_self
    have h2 := nodup_le (L := L.filter fun t => decide (t ≠ s)) h'.2 fun t ht => List.mem_filter.2 ⟨hs t (List.mem_cons_of_mem _ ht), decide_eq_true fun e => h'.1 (by rw [← e]; exact ht)⟩
    have h3 : (L.filter fun t => decide (t ≠ s)).length < L.length := List.length_filter_lt_length_iff_exists.2 ⟨s, hm, by simp⟩
    rw [List.length_cons]
    omega
set_option maxRecDepth 100000 in
set_option maxHeartbeats 3200000 in
theorem merged_c (w : World) (x y z : LA) (u : Nat) (hx : x.Rd w) (hy : y.Rd w) (hz : z.Rd w) (hP : Pow w) :
    Calls Tryz.prog 38 #[.slice x.a x.l.length x.c, .slice y.a y.l.length y.c, .slice z.a z.l.length z.c, .int .u8 u] w (MgPost x.v y.v z.v u w) := by
  have HPL := Lib.hid (plan27_c w x y z u hx hy hz hP)
  have HX := Lib.hid hx
  have HY := Lib.hid hy
  have HZ := Lib.hid hz
  clear hx hy hz hP
  go_enter Tryz.func38, Tryz.ntmps38
  go_wp2_with (first
    | (go_at_call 33; refine HPL.out.mono ?_; rintro e w1 ⟨P, aP, rfl, hp1, hp2, hpl, ho, hb1⟩
       have hsl := (ownC_sl Pk.enc_len (by omega) ho).widen (Nat.zero_le _) (Nat.le_refl _)
       have hsd : ∀ p ∈ P, 0 ≤ p.side ∧ p.side ≤ 255 := by
         cases hb : anyBad (x.v ++ y.v ++ z.v) with
         | true => rw [hp1 hb]; simp
         | false => exact picks_sides (hp2 hb)
       have HT := Lib.hid (take27_c w1 x y z aP P.length P (HX.out.up hb1) (HY.out.up hb1) (HZ.out.up hb1) hsl hpl hsd)
       have HP1 := Lib.hid hp1
       have HP2 := Lib.hid hp2
       clear hp1 hp2 ho hsl hsd)
    | (go_at_call 37; refine HT.out.mono ?_; rintro e w2 ⟨ys, a, rfl, hyv, hoy, hiv, hb2⟩))
  go_ret
  have hbad : anyBad (x.v ++ y.v ++ z.v) = true → ys = [] := fun h => by
    have := HP1.out h
    rw [this] at hyv
    exact List.map_eq_nil_iff.1 hyv
  have hgood : anyBad (x.v ++ y.v ++ z.v) = false → Merged (keysV x.v) (keysV y.v) (keysV z.v) u (keysV (ys.map AV.v)) ∧ ∀ v ∈ ys.map AV.v, v ∈ y.v ∨ v ∈ z.v := fun h => by
    rw [hyv]
    have hm := anyBad_not.1 h
    exact picks_merged (fun v hv => hm v (by simp [hv])) (fun v hv => hm v (by simp [hv])) (HP2.out h)
  refine ⟨ys, a, rfl, hbad, hgood, (ownC_sl AV.enc_len (by omega) hoy).widen (Nat.zero_le _) (Nat.le_refl _), fun v hv => ?_, ?_, below_via hb1 hb2⟩
  · obtain ⟨iv, h1, h2, -⟩ := hiv
    obtain ⟨i, hi, rfl⟩ := List.mem_iff_getElem.1 hv
    obtain ⟨-, g2, g3, -, -⟩ := h2 i ys[i] (iv[i]'(by omega)) (List.getElem?_eq_getElem _) (List.getElem?_eq_getElem _)
    refine ⟨g3.widen (Nat.zero_le _) g2, ?_⟩
    have hmem : ys[i].v ∈ takeP x.v y.v z.v P := by rw [← hyv]; exact List.mem_map_of_mem (List.getElem_mem _)
    obtain ⟨p, -, hp⟩ := List.mem_filterMap.1 hmem
    have hw : ∀ q : LA, q.Rd w → ys[i].v ∈ q.v → ys[i].w ≤ 1048576 := fun q hq hm => by
      obtain ⟨t, ht, e⟩ := List.mem_map.1 hm
      have := (hq.kids t ht).2
      show ys[i].v.w ≤ _
      rw [← e]; exact this
    obtain ⟨k, -, hk⟩ := pick_parts hp
    rcases hk with ⟨-, hk⟩ | ⟨-, hk⟩ | ⟨-, hk⟩
    · exact hw x HX.out (List.mem_of_getElem? hk)
    · exact hw y HY.out (List.mem_of_getElem? hk)
    · exact hw z HZ.out (List.mem_of_getElem? hk)
  · cases hb : anyBad (x.v ++ y.v ++ z.v) with
    | true => rw [hbad hb]; simp
    | false =>
      obtain ⟨h1, h2⟩ := hgood hb
      have := nodup_le (L := keysV y.v ++ keysV z.v) h1.nodup (fun s hs => by
        rcases h1.mem.1 hs with ⟨-, h, -⟩ | ⟨-, h⟩
        · simp [h]
        · simpa using h)
      simpa [keysV] using this

def inV (l : List Val) (v : Val) : Bool := l.any fun u => sameV u v
def eqlV : List Val → List Val → Bool
  | [], [] => true
  | u :: a, v :: b => sameV u v && eqlV a b
  | _, _ => false
theorem eqlV_len : ∀ {a b : List Val}, a.length ≠ b.length → eqlV a b = false
  | [], [], h => absurd rfl h
  | [], _ :: _, _ => rfl
  | _ :: _, [], _ => rfl
  | u :: a, v :: b, h => by rw [eqlV, eqlV_len (a := a) (b := b) (by simpa using h), Bool.and_false]
theorem eqlV_no : ∀ {a b : List Val} {i : Nat} {u v : Val}, a[i]? = some u → b[i]? = some v → sameV u v = false → eqlV a b = false
  | [], _, _, _, _, h, _, _ => by simp at h
  | _ :: _, [], _, _, _, _, h, _ => by simp at h
  | u :: a, v :: b, 0, _, _, h1, h2, h => by cases h1; cases h2; rw [eqlV, h, Bool.false_and]
  | u :: a, v :: b, i + 1, _, _, h1, h2, h => by rw [eqlV, eqlV_no (a := a) (b := b) (i := i) h1 h2 h, Bool.and_false]
theorem eqlV_yes : ∀ {a b : List Val}, a.length = b.length → (∀ (i : Nat) (u v : Val), a[i]? = some u → b[i]? = some v → sameV u v = true) → eqlV a b = true
  | [], [], _, _ => rfl
  | [], _ :: _, h, _ => by simp at h
  | _ :: _, [], h, _ => by simp at h
  | u :: a, v :: b, hl, h => by rw [eqlV, h 0 u v rfl rfl, eqlV_yes (a := a) (b := b) (by simpa using hl) fun i u v h1 h2 => h (i + 1) u v h1 h2]; rfl
set_option maxRecDepth 100000 in
set_option maxHeartbeats 3200000 in
theorem in27_c (w : World) (q : LA) (v : AV) (hq : q.Rd w) (hv : Go.Proofs.YtjihepdjcbpgoaaGreatDoor.Rd w v) (hvw : v.w ≤ 1048576) : Calls Tryz.prog 39 #[.slice q.a q.l.length q.c, v.val] w (Ret (.bool (inV q.v v.v)) w) := by
  have hql := hq.len
  have HQ := Lib.hid hq
  have HV := Lib.hid hv
  clear hq hv
  go_enter Tryz.func39, Tryz.ntmps39
  go_upto_region 1 with fail
  go_name_world W1 hW1
  have hb1 : Below w.heap.size w W1 := by rw [← hW1]; exact (Below.refl _ _).alloc (Nat.le_refl _) _
  have hbx := Lib.hid (show W1.heap[w.heap.size]? = some (.cells #[.int .u8 v.k, .string v.t, .slice v.la v.l.length v.lc, .slice v.ka v.ks.length v.kc] 26 (0, 0)) by rw [← hW1]; exact heap_alloc_new w _)
  have HB1 := Lib.hid hb1
  clear hW1 hb1
  go_wp2_with fail
  go_loopw [5] (fun s5 wr => ∃ i : Nat, i ≤ q.l.length ∧ s5 = .int .i64 i ∧ (∀ u ∈ q.l.take i, sameV u.v v.v = false) ∧ Below W1.heap.size W1 wr) (fun s5 _ => q.l.length - (intOf s5).toNat)
  case atStart => exact ⟨0, Nat.zero_le _, by go_num, by simp, Below.refl _ _⟩
  case round =>
    obtain ⟨i, hi, rfl, hno, hbr⟩ := hrel
    have HNO := Lib.hid hno
    have HBR := Lib.hid hbr
    clear hno
    by_cases hlt : i < q.l.length
    · have hlt' : (i : Int) < (q.l.length : Int) := by omega
      have hi0 : (0 : Int) ≤ (i : Int) := by omega
      have hwi : IntKind.i64.wrap ((i : Int) + 1) = ((i + 1 : Nat) : Int) := by rw [IntWalk.i64_in _ (by omega)]; omega
      have hk : q.l[i]? = some q.l[i] := List.getElem?_eq_getElem hlt
      have hmem : q.l[i] ∈ q.l := List.getElem_mem hlt
      have htk : q.l.take (i + 1) = q.l.take i ++ [q.l[i]] := by rw [List.take_add_one, hk]; rfl
      generalize q.l[i] = u at *
      have hbw := below_via HB1.out hbr
      obtain ⟨b, off, hla, -, -, hb2, c0, c1, c2, c3⟩ := vals_at HQ.out.sl hk
      have hbb : b < wr.heap.size := Nat.lt_of_lt_of_le hb2 hbw.size
      have d0 := (hbw.cell (p := ⟨_, _, none⟩) hb2).trans c0
      have d1 := (hbw.cell (p := ⟨_, _, none⟩) hb2).trans c1
      have d2 := (hbw.cell (p := ⟨_, _, none⟩) hb2).trans c2
      have d3 := (hbw.cell (p := ⟨_, _, none⟩) hb2).trans c3
      have hbx2 := (hbr.block w.heap.size (World.block_lt_of_cell? W1 ⟨w.heap.size, 0, none⟩ (vbox4 hbx.out).1)).trans hbx.out
      have LD := Lib.hid (fun W (h : Below wr.heap.size wr W) => And.intro ((h.cell (p := ⟨_, _, none⟩) hbb).trans d0) (And.intro ((h.cell (p := ⟨_, _, none⟩) hbb).trans d1) (And.intro ((h.cell (p := ⟨_, _, none⟩) hbb).trans d2) (And.intro ((h.cell (p := ⟨_, _, none⟩) hbb).trans d3) (vbox4 (blk_up h hbx2))))))
      obtain ⟨r, hr⟩ : ∃ r, sameV u.v v.v = r := ⟨_, rfl⟩
      have HH := fun W (h : Below wr.heap.size wr W) => Lib.hid (show Calls Tryz.prog 14 #[u.val, v.val] W (Ret (.bool r) W) by
        have h2 := same_c u v W ((HQ.out.kids u hmem).1.up (below_via hbw h)) (HV.out.up (below_via hbw h)) (HQ.out.kids u hmem).2 hvw
        rwa [hr] at h2)
      have HR := Lib.hid hr
      have HTK := Lib.hid htk
      have HMEM := Lib.hid hmem
      have HLA := Lib.hid hla
      clear hk hmem htk hr c0 c1 c2 c3 d0 d1 d2 d3 hbx2 hbw hbr hla
      go_upto_region 4 with fail
      rw [HLA.out]
      refine wp_region_bl (by kernel_rfl) (by kernel_rfl) ?_
      repeat (first | go_big_quiet_skip | (go_big_quiet_want; go_big_quiet_op; first | go_big_quiet_on | (refine ⟨_, fun _ _ => (by with_reducible rfl), ?_⟩; go_big_quiet_on) | (apply Exists.intro; refine ⟨fun w' hC => (by simp only [LD.out w' hC, Result.andThen]; exact ⟨trivial, rfl⟩), ?_⟩; go_big_quiet_on) | (apply Exists.intro; refine ⟨fun w' hC => (by (with_reducible refine (HH w' hC).out.mono ?_); exact fun e w2 ⟨he, hb⟩ => ⟨he, hC.trans (hb.mono hC.size)⟩), ?_⟩; go_big_quiet_on)))
      refine wpQuiet_nil ?_; intro wz hbz
      rw [← HLA.out]
      cases r with
      | true =>
        go_wp2_with fail
        go_ret
        refine ⟨?_, below_via HB1.out (below_via HBR.out hbz)⟩
        have hT : inV q.v v.v = true := List.any_eq_true.2 ⟨u.v, List.mem_map_of_mem HMEM.out, HR.out⟩
        rw [hT]; rfl
      | false =>
        go_wp2_with fail
        refine ⟨⟨i + 1, by omega, by go_num, fun t ht => ?_, below_via HBR.out hbz⟩, by simp [intOf]; omega⟩
        rw [HTK.out] at ht
        rcases List.mem_append.1 ht with ht | ht
        · exact HNO.out t ht
        · simp at ht; subst ht; exact HR.out
    · obtain rfl : i = q.l.length := by omega
      have hge : ¬ (q.l.length : Int) < (q.l.length : Int) := by omega
      clear hbr
      go_wp2_with fail
      go_ret
      refine ⟨?_, below_via HB1.out HBR.out⟩
      have : inV q.v v.v = false := by
        rw [inV, List.any_eq_false]
        intro t ht
        obtain ⟨u, hu, rfl⟩ := List.mem_map.1 ht
        have := HNO.out u (by rw [List.take_length]; exact hu)
        rw [this]; simp
      rw [this]; rfl
set_option maxRecDepth 100000 in
set_option maxHeartbeats 3200000 in
theorem equal27_c (w : World) (p q : LA) (hp : p.Rd w) (hq : q.Rd w) : Calls Tryz.prog 40 #[.slice p.a p.l.length p.c, .slice q.a q.l.length q.c] w (Ret (.bool (eqlV p.v q.v)) w) := by
  have hpl := hp.len
  have hql := hq.len
  have HPP := Lib.hid hp
  have HQ := Lib.hid hq
  clear hp hq
  by_cases hne : p.l.length = q.l.length
  · have hn1 : ((p.l.length : Int) != (q.l.length : Int)) = false := by simp [hne]
    have hn2 : (p.l.length != q.l.length) = false := by simp [hne]
    have HNE := Lib.hid hne
    clear hne
    go_enter Tryz.func40, Tryz.ntmps40
    go_wp2_with fail
    go_loopw [5] (fun s5 wr => ∃ i : Nat, i ≤ p.l.length ∧ s5 = .int .i64 i ∧ (∀ (j : Nat) (u v : AV), j < i → p.l[j]? = some u → q.l[j]? = some v → sameV u.v v.v = true) ∧ Below w.heap.size w wr) (fun s5 _ => p.l.length - (intOf s5).toNat)
    case atStart => exact ⟨0, Nat.zero_le _, by go_num, fun j u v h => absurd h (by omega), Below.refl _ _⟩
    case round =>
      clear hn1 hn2
      obtain ⟨i, hi, rfl, hno, hbr⟩ := hrel
      have HNO := Lib.hid hno
      have HBR := Lib.hid hbr
      clear hno
      by_cases hlt : i < p.l.length
      · have hlq : i < q.l.length := by have := HNE.out; omega
        have hlt' : (i : Int) < (p.l.length : Int) := by omega
        have hlq' : (i : Int) < (q.l.length : Int) := by omega
        have hi0 : (0 : Int) ≤ (i : Int) := by omega
        have hwi : IntKind.i64.wrap ((i : Int) + 1) = ((i + 1 : Nat) : Int) := by rw [IntWalk.i64_in _ (by omega)]; omega
        have hk : p.l[i]? = some p.l[i] := List.getElem?_eq_getElem hlt
        have hk2 : q.l[i]? = some q.l[i] := List.getElem?_eq_getElem hlq
        have hmem : p.l[i] ∈ p.l := List.getElem_mem hlt
        have hmem2 : q.l[i] ∈ q.l := List.getElem_mem hlq
        generalize p.l[i] = u at *
        generalize q.l[i] = v at *
        obtain ⟨b, off, hla, -, -, hb2, c0, c1, c2, c3⟩ := vals_at (HPP.out.up hbr).sl hk
        obtain ⟨b', off', hla', -, -, hb2', c0', c1', c2', c3'⟩ := vals_at (HQ.out.up hbr).sl hk2
        have LD := Lib.hid (fun W (h : Below wr.heap.size wr W) => And.intro ((h.cell (p := ⟨_, _, none⟩) hb2).trans c0) (And.intro ((h.cell (p := ⟨_, _, none⟩) hb2).trans c1) (And.intro ((h.cell (p := ⟨_, _, none⟩) hb2).trans c2) (And.intro ((h.cell (p := ⟨_, _, none⟩) hb2).trans c3) (And.intro ((h.cell (p := ⟨_, _, none⟩) hb2').trans c0') (And.intro ((h.cell (p := ⟨_, _, none⟩) hb2').trans c1') (And.intro ((h.cell (p := ⟨_, _, none⟩) hb2').trans c2') ((h.cell (p := ⟨_, _, none⟩) hb2').trans c3'))))))))
        obtain ⟨r, hr⟩ : ∃ r, sameV u.v v.v = r := ⟨_, rfl⟩
        have HH := fun W (h : Below wr.heap.size wr W) => Lib.hid (show Calls Tryz.prog 14 #[u.val, v.val] W (Ret (.bool r) W) by
          have h2 := same_c u v W ((HPP.out.kids u hmem).1.up (below_via hbr h)) ((HQ.out.kids v hmem2).1.up (below_via hbr h)) (HPP.out.kids u hmem).2 (HQ.out.kids v hmem2).2
          rwa [hr] at h2)
        have HR := Lib.hid hr
        have HK := Lib.hid (And.intro hk hk2)
        have HLA := Lib.hid hla
        have HLB := Lib.hid hla'
        clear hk hk2 hmem hmem2 hr c0 c1 c2 c3 c0' c1' c2' c3' hbr hla hla'
        go_upto_region 6 with fail
        rw [HLA.out, HLB.out]
        refine wp_region_bl (by kernel_rfl) (by kernel_rfl) ?_
        repeat (first | go_big_quiet_skip | (go_big_quiet_want; go_big_quiet_op; first | go_big_quiet_on | (refine ⟨_, fun _ _ => (by with_reducible rfl), ?_⟩; go_big_quiet_on) | (apply Exists.intro; refine ⟨fun w' hC => (by simp only [LD.out w' hC, Result.andThen]; exact ⟨trivial, rfl⟩), ?_⟩; go_big_quiet_on) | (apply Exists.intro; refine ⟨fun w' hC => (by (with_reducible refine (HH w' hC).out.mono ?_); exact fun e w2 ⟨he, hb⟩ => ⟨he, hC.trans (hb.mono hC.size)⟩), ?_⟩; go_big_quiet_on)))
        refine wpQuiet_nil ?_; intro wz hbz
        rw [← HLA.out, ← HLB.out]
        cases r with
        | true =>
          go_wp2_with fail
          refine ⟨⟨i + 1, by omega, by go_num, fun j u' v' h1 h2 h3 => ?_, below_via HBR.out hbz⟩, by simp [intOf]; omega⟩
          rcases Nat.lt_or_ge j i with hj | hj
          · exact HNO.out j u' v' hj h2 h3
          · obtain rfl : j = i := by omega
            rw [HK.out.1] at h2
            rw [HK.out.2] at h3
            cases h2; cases h3
            exact HR.out
        | false =>
          go_wp2_with fail
          go_ret
          refine ⟨?_, below_via HBR.out hbz⟩
          rw [eqlV_no (i := i) (u := u.v) (v := v.v) (by rw [LA.v, List.getElem?_map, HK.out.1]; rfl) (by rw [LA.v, List.getElem?_map, HK.out.2]; rfl) HR.out]; rfl
      · obtain rfl : i = p.l.length := by omega
        have hge : ¬ (p.l.length : Int) < (p.l.length : Int) := by omega
        clear hbr
        go_wp2_with fail
        go_ret
        refine ⟨?_, HBR.out⟩
        have hT : eqlV p.v q.v = true := by
          refine eqlV_yes (by rw [LA.v, LA.v, List.length_map, List.length_map]; exact HNE.out) fun j u v h1 h2 => ?_
          rw [LA.v, List.getElem?_map] at h1 h2
          cases e1 : p.l[j]? with
          | none => rw [e1] at h1; cases h1
          | some u' =>
            cases e2 : q.l[j]? with
            | none => rw [e2] at h2; cases h2
            | some v' =>
              rw [e1] at h1
              rw [e2] at h2
              cases h1; cases h2
              exact HNO.out j u' v' (List.getElem?_eq_some_iff.1 e1).1 e1 e2
        rw [hT]; rfl
  · have hn1 : ((p.l.length : Int) != (q.l.length : Int)) = true := by simp; omega
    have hn2 : (p.l.length != q.l.length) = true := by simp; omega
    have HN := Lib.hid (show eqlV p.v q.v = false from eqlV_len (by rw [LA.v, LA.v, List.length_map, List.length_map]; exact hne))
    clear hne
    go_enter Tryz.func40, Tryz.ntmps40
    go_wp2_with fail
    go_ret
    exact ⟨by rw [HN.out]; rfl, Below.refl _ _⟩

section
variable {k : ByteArray → ByteArray} (hk : ∀ a b, k a = k b ↔ a = b)
include hk
theorem mem_mapk {l : List ByteArray} {s : ByteArray} : k s ∈ l.map k ↔ s ∈ l := by
  rw [List.mem_map]
  constructor
  · rintro ⟨t, ht, e⟩; rw [← (hk t s).1 e]; exact ht
  · intro h; exact ⟨s, h, rfl⟩
theorem firsts_mapk : ∀ l : List ByteArray, firsts (l.map k) = (firsts l).map k
  | [] => rfl
  | s :: l => by
    rw [List.map_cons, firsts, firsts, firsts_mapk l, List.map_cons, List.filter_map]
    congr 2
    refine List.filter_congr fun t _ => ?_
    exact decide_eq_decide.2 (not_congr (hk t s))
theorem bothK_mapk (a b c : List ByteArray) : bothK (a.map k) (b.map k) (c.map k) = (bothK a b c).map k := by
  rw [bothK, bothK, firsts_mapk hk, List.filter_map]
  congr 1
  refine List.filter_congr fun t _ => ?_
  exact decide_eq_decide.2 (and_congr (mem_mapk hk) (mem_mapk hk))
theorem newK_mapk (a b : List ByteArray) : newK (a.map k) (b.map k) = (newK a b).map k := by
  rw [newK, newK, firsts_mapk hk, List.filter_map]
  congr 1
  refine List.filter_congr fun t _ => ?_
  exact decide_eq_decide.2 (not_congr (mem_mapk hk))
theorem moreK_mapk (a b c : List ByteArray) : moreK (a.map k) (b.map k) (c.map k) = (moreK a b c).map k := by
  rw [moreK, moreK, firsts_mapk hk, List.filter_map]
  congr 1
  refine List.filter_congr fun t _ => ?_
  exact decide_eq_decide.2 (and_congr (not_congr (mem_mapk hk)) (not_congr (mem_mapk hk)))
end
def bs1 (n : Nat) : ByteArray := ⟨#[UInt8.ofNat n]⟩
theorem keysV_words (ss : List ByteArray) : keysV (ss.map wordV) = ss.map fun b => (wordV b).key := by rw [keysV, List.map_map]; rfl
theorem ex_set {K : List ByteArray} (h : Merged (keysV ([bs1 97, bs1 98, bs1 99].map wordV)) (keysV ([bs1 97, bs1 99, bs1 120].map wordV)) (keysV ([bs1 98, bs1 99, bs1 97, bs1 121].map wordV)) 0 K) : K = keysV ([bs1 97, bs1 99, bs1 120, bs1 121].map wordV) := by
  obtain ⟨F, rfl, hp, -, -, hw⟩ := h.ex
  rw [keysV_words, keysV_words, keysV_words] at hp ⊢
  rw [keysV_words, bothK_mapk word_key]
  rw [newK_mapk word_key, moreK_mapk word_key, ← List.map_append] at hp
  have e1 : bothK [bs1 97, bs1 98, bs1 99] [bs1 97, bs1 99, bs1 120] [bs1 98, bs1 99, bs1 97, bs1 121] = [bs1 97, bs1 99] := by decide
  have e2 : newK [bs1 97, bs1 98, bs1 99] [bs1 97, bs1 99, bs1 120] ++ moreK [bs1 97, bs1 98, bs1 99] [bs1 97, bs1 99, bs1 120] [bs1 98, bs1 99, bs1 97, bs1 121] = [bs1 120, bs1 121] := by decide
  rw [e2] at hp
  rw [e1]
  have hle : KeyLe (wordV (bs1 120)).key (wordV (bs1 121)).key := ⟨_, _, word_may _, word_may _, rfl, rfl, by
    rw [cmpV_head _ _ _ (.inr (by show (3 : Int) < 7; omega))]
    have hbl : Op.bytesLess [(120 : UInt8)] [121] = true := by rw [bytesLess_eq]; decide
    simp [orInt, cmpInt, cmpStr, wordV, bs1, hbl]⟩
  have : F = [bs1 120, bs1 121].map fun b => (wordV b).key := List.Perm.eq_of_pairwise (fun a b _ _ h1 h2 => keyLe_anti h1 h2) (hw (by omega) (by omega)) (by
    rw [List.map_cons, List.map_cons, List.map_nil, List.pairwise_cons]
    refine ⟨fun t ht => ?_, List.pairwise_singleton _ _⟩
    rw [List.mem_singleton] at ht
    subst ht
    exact hle) hp
  rw [this]; rfl
theorem keys_eql : ∀ {a b : List Val}, (∀ v ∈ a, v.may = true) → (∀ v ∈ b, v.may = true) → keysV a = keysV b → eqlV a b = true
  | [], [], _, _, _ => rfl
  | [], _ :: _, _, _, h => by simp [keysV] at h
  | _ :: _, [], _, _, h => by simp [keysV] at h
  | u :: a, v :: b, ha, hb, h => by
    rw [keysV, keysV, List.map_cons, List.map_cons, List.cons.injEq] at h
    have mu := ha u List.mem_cons_self
    have mv := hb v List.mem_cons_self
    have e : sameV u v = true := by
      rw [sameV, mu, mv, (key_same mu mv).1 h.1]; rfl
    rw [eqlV, e, keys_eql (fun x hx => ha x (List.mem_cons_of_mem _ hx)) (fun x hx => hb x (List.mem_cons_of_mem _ hx)) h.2]
    rfl
theorem words_may (ss : List ByteArray) : ∀ v ∈ ss.map wordV, v.may = true := fun v hv => by
  obtain ⟨b, -, rfl⟩ := List.mem_map.1 hv
  exact word_may b
theorem ex_not_bad (a b c : List ByteArray) : anyBad (a.map wordV ++ b.map wordV ++ c.map wordV) = false := anyBad_not.2 fun v hv => by
  rcases List.mem_append.1 hv with hv | hv
  · rcases List.mem_append.1 hv with hv | hv
    · exact words_may a v hv
    · exact words_may b v hv
  · exact words_may c v hv

set_option maxRecDepth 100000 in
set_option maxHeartbeats 3200000 in
theorem lives27_c (w : World) (hP : Pow w) : Calls Tryz.prog 31 #[] w (Ret (.bool true) w) := by
  have HP := Lib.hid hP
  clear hP
  have lit3 : ∀ (W : World) (a b c : ByteArray), SlE strE 1 (W.alloc (.cells #[.string a, .string b, .string c] 9)) 0 (W.alloc (.cells #[.string a, .string b, .string c] 9)).heap.size (some ⟨W.heap.size, 0, none⟩) [a, b, c] := fun W a b c => (lit_sl (enc := strE) (size := 1) (l := [a, b, c]) (t := 9) (fr := (0, 0)) (fun _ => rfl) (heap_alloc_new _ _)).widen (Nat.zero_le _) (by simp)
  have lit4 : ∀ (W : World) (a b c d : ByteArray), SlE strE 1 (W.alloc (.cells #[.string a, .string b, .string c, .string d] 9)) 0 (W.alloc (.cells #[.string a, .string b, .string c, .string d] 9)).heap.size (some ⟨W.heap.size, 0, none⟩) [a, b, c, d] := fun W a b c d => (lit_sl (enc := strE) (size := 1) (l := [a, b, c, d]) (t := 9) (fr := (0, 0)) (fun _ => rfl) (heap_alloc_new _ _)).widen (Nat.zero_le _) (by simp)
  have hsz : ∀ n, (bs1 n).size ≤ 1000 := fun n => by show 1 ≤ 1000; omega
  have ba := fun (W : World) (o : Obj) => (Below.refl W.heap.size W).alloc (Nat.le_refl _) o
  have hW1 := fun W => Lib.hid (words27_c _ _ 3 [bs1 97, bs1 98, bs1 99] (lit3 W _ _ _) (by simp) (by simp [hsz]))
  have hW2 := fun W => Lib.hid (words27_c _ _ 3 [bs1 97, bs1 99, bs1 120] (lit3 W _ _ _) (by simp) (by simp [hsz]))
  have hW3 := fun W => Lib.hid (words27_c _ _ 4 [bs1 98, bs1 99, bs1 97, bs1 121] (lit4 W _ _ _ _) (by simp) (by simp [hsz]))
  have hW4 := fun W => Lib.hid (words27_c _ _ 4 [bs1 97, bs1 99, bs1 120, bs1 121] (lit4 W _ _ _ _) (by simp) (by simp [hsz]))
  clear lit3 lit4 hsz
  go_enter Tryz.func31, Tryz.ntmps31
  go_wp2_with (first
    | (have kq4 := k5; go_at_call 63; refine (hW4 _).out.mono ?_; rintro e w5 ⟨y4, rfl, hv4, hr4, hb5⟩
       have hbb5 := below_via (ba _ _) hb5
       have hE := Lib.hid (equal27_c w5 ⟨a, ys, ys.length⟩ y4 (HR5.out.up hbb5) hr4)
       have HV4 := Lib.hid hv4
       have HB5 := Lib.hid hbb5
       clear hv4 hr4 hb5 hbb5)
    | (have kq3 := k2; go_at_call 63; refine (hW3 _).out.mono ?_; rintro e w3 ⟨y3, rfl, hv3, hr3, hb3⟩
       have hbb3 := below_via (ba _ _) hb3
       have hM := Lib.hid (merged_c w3 y1 y2 y3 0 ((HR1.out.up HB2.out).up hbb3) (HR2.out.up hbb3) hr3 (HP.out.below (below_via (below_via HB1.out HB2.out) hbb3)))
       have HV3 := Lib.hid hv3
       have HB3 := Lib.hid hbb3
       have k3 := trivial
       clear hv3 hr3 hb3 hbb3)
    | (have kq2 := k1; go_at_call 63; refine (hW2 _).out.mono ?_; rintro e w2 ⟨y2, rfl, hv2, hr2, hb2⟩
       have HB2 := Lib.hid (below_via (ba _ _) hb2)
       have HR2 := Lib.hid hr2
       have HV2 := Lib.hid hv2
       have k2 := trivial
       clear hv2 hr2 hb2)
    | (go_at_call 63; refine (hW1 _).out.mono ?_; rintro e w1 ⟨y1, rfl, hv1, hr1, hb1⟩
       have HB1 := Lib.hid (below_via (ba _ _) hb1)
       have HR1 := Lib.hid hr1
       have HV1 := Lib.hid hv1
       have k1 := trivial
       clear hv1 hr1 hb1)
    | (go_at_call 38; refine hM.out.mono ?_; rintro e w4 ⟨ys, a, rfl, -, hg, hsl, hkd, hln, hb4⟩
       have k5 := trivial
       have HR5 := Lib.hid (show LA.Rd w4 ⟨a, ys, ys.length⟩ from ⟨hsl, by
         have h2 : y2.v.length = 3 := by rw [HV2.out]; rfl
         have h3 : y3.v.length = 4 := by rw [HV3.out]; rfl
         show ys.length ≤ _
         omega, hkd⟩)
       have HG := Lib.hid hg
       have HB4 := Lib.hid hb4
       clear hg hsl hkd hln hb4)
    | (go_at_call 40; refine hE.out.mono ?_; rintro e w6 ⟨rfl, hb6⟩))
  go_ret
  have hgg := HG.out
  rw [HV1.out, HV2.out, HV3.out] at hgg
  obtain ⟨h1, h2⟩ := hgg (ex_not_bad _ _ _)
  have hT : eqlV (LA.v ⟨a, ys, ys.length⟩) y4.v = true := by
    rw [HV4.out]
    refine keys_eql (fun v hv => ?_) (words_may _) (ex_set h1)
    rcases h2 v hv with h | h
    · exact words_may _ v h
    · exact words_may _ v h
  exact ⟨by rw [hT]; rfl, below_via (below_via (below_via (below_via HB1.out HB2.out) HB3.out) HB4.out) (below_via HB5.out hb6)⟩
end Go.Proofs.YtjihepdjcbpgoaaGreatDoor

namespace Go.Proofs.YtjihepdjcbpgoaaGreatDoor
open Go.RowKit Go.Sort

def GreatS (L : List LA) (w : World) (e : Ending) (w' : World) : Prop := ∃ r : Bool, e = .returned (.bool r) ∧ (r = false → ∀ q ∈ L, q.l.length ≤ 500) ∧ Below w.heap.size w w'
set_option maxRecDepth 100000 in
set_option maxHeartbeats 3200000 in
theorem great23_s (w : World) (A : Option Addr) (c : Nat) (L : List LA) (h : SlE LA.enc 1 w 0 w.heap.size A L) (hL : ∀ q ∈ L, q.Rd w) (hl : L.length ≤ 1048576) : Calls Tryz.prog 30 #[.slice A L.length c] w (GreatS L w) := by
  have H := Lib.hid h
  have HL := Lib.hid hL
  clear h hL
  go_enter Tryz.func30, Tryz.ntmps30
  go_wp2_with fail
  go_loopw [3, 4, 5] (fun s3 s4 _ wr => ∃ n i : Nat, i ≤ L.length ∧ s3 = .int .i64 n ∧ s4 = .int .i64 i ∧ n ≤ 1050079 ∧ (n < 1500 → ∀ j q, j < i → L[j]? = some q → q.l.length ≤ 500) ∧ Below w.heap.size w wr) (fun _ s4 _ _ => L.length - (intOf s4).toNat)
  case atStart => exact ⟨0, 0, Nat.zero_le _, rfl, rfl, by omega, fun _ j q h => absurd h (by omega), Below.refl _ _⟩
  case round =>
    obtain ⟨n, i, hi, rfl, rfl, hn, hall, hb⟩ := hrel
    have HALL := Lib.hid hall
    clear hall
    by_cases hlt : i < L.length
    · have hlt' : (i : Int) < (L.length : Int) := by omega
      have hk : L[i]? = some L[i] := List.getElem?_eq_getElem hlt
      have hmem : L[i] ∈ L := List.getElem_mem hlt
      generalize L[i] = q at *
      obtain ⟨b, off, hla, -, hb1, hb2, h0⟩ := la_at H.out hk
      have hq := HL.out q hmem
      have HQ := Lib.hid hq
      have hqs := hq.sl
      have hql := hq.len
      have HB := Lib.hid hb
      have HQS := Lib.hid hqs
      have HKQ := Lib.hid hk
      have NXT := Lib.hid (fun (n2 : Nat) (h : n2 < 1500 → n ≤ n2) (h3 : n2 < 1500 → 3 * q.l.length ≤ n2) (h2 : n2 < 1500) (j : Nat) (p : LA) (hj : j < i + 1) (hp : L[j]? = some p) => show p.l.length ≤ 500 from by
        rcases Nat.lt_or_ge j i with h' | h'
        · exact HALL.out (by have := h h2; omega) j p h' hp
        · obtain rfl : j = i := by omega
          rw [HKQ.out] at hp
          cases hp
          have := h3 h2
          omega)
      clear hq hqs hk hmem hb
      rw [hla]
      go_wp2_with fail
      go_loopw [3, 5] (fun s3 s5 wi => ∃ n2 k : Nat, k ≤ q.l.length ∧ s3 = .int .i64 n2 ∧ s5 = .int .i64 k ∧ n2 ≤ 1050079 ∧ n ≤ n2 ∧ 3 * k ≤ n2 ∧ Below w.heap.size w wi) (fun _ s5 _ => q.l.length - (intOf s5).toNat)
      case atStart => exact ⟨n, 0, Nat.zero_le _, rfl, rfl, hn, Nat.le_refl _, by omega, HB.out⟩
      case round =>
        obtain ⟨n2, k, hk, rfl, rfl, hn2, hnn, h3k, hb⟩ := hrel
        have h0' := (hb.cell (p := ⟨_, _, none⟩) hb2).trans h0
        have hbb : b < wr.heap.size := Nat.lt_of_lt_of_le hb2 hb.size
        by_cases hkl : k < q.l.length
        · have hkl' : (k : Int) < (q.l.length : Int) := by omega
          by_cases hn15 : n2 < 1500
          · have hn15' : (n2 : Int) < 1500 := by omega
            have hk2 : q.l[k]? = some q.l[k] := List.getElem?_eq_getElem hkl
            have hmem : q.l[k] ∈ q.l := List.getElem_mem hkl
            generalize q.l[k] = y at *
            obtain ⟨b2, off2, hla2, -, hc1, hc2, g0, g1, g2, g3⟩ := vals_at HQS.out hk2
            rw [← hb.cell (p := ⟨_, _, none⟩) hc2] at g0 g1 g2 g3
            have hbb2 : b2 < wr.heap.size := Nat.lt_of_lt_of_le hc2 hb.size
            obtain ⟨hyr, hyw⟩ := HQ.out.kids y hmem
            have HWT := Lib.hid (weight_c y wr (hyr.up hb) hyw)
            have hyw2 : y.v.w ≤ 1048576 := hyw
            have HBB := Lib.hid hb
            rw [hla2] at h0'
            clear hb hk2 hmem hla2 hyr hyw
            have hw1 : IntKind.i64.wrap ((n2 : Int) + 3) = ((n2 + 3 : Nat) : Int) := by rw [IntWalk.i64_in _ (by omega)]; omega
            have hwk : IntKind.i64.wrap ((k : Int) + 1) = ((k + 1 : Nat) : Int) := by rw [IntWalk.i64_in _ (by omega)]; omega
            go_wp2_with (go_at_call 45; refine HWT.out.mono ?_; rintro e w2 ⟨r, hr, rfl, hb3⟩
                         have hr2 : r ≤ y.v.w := hr.1
                         have hw2 : IntKind.i64.wrap (((n2 + 3 : Nat) : Int) + (r : Int)) = ((n2 + 3 + r : Nat) : Int) := by rw [IntWalk.i64_in _ (by omega)]; omega)
            exact ⟨⟨n2 + 3 + r, k + 1, by omega, by go_num, by go_num, by omega, by omega, by omega, below_via HBB.out hb3⟩, by simp [intOf]; omega⟩
          · have hn15' : ¬ (n2 : Int) < 1500 := by omega
            have hwi : IntKind.i64.wrap ((i : Int) + 1) = ((i + 1 : Nat) : Int) := by rw [IntWalk.i64_in _ (by omega)]; omega
            go_wp2_with fail
            exact ⟨⟨n2, i + 1, by omega, rfl, by go_num, hn2, NXT.out n2 (fun _ => hnn) (fun h => by omega), hb⟩, by simp [intOf]; omega⟩
        · have hkl' : ¬ (k : Int) < (q.l.length : Int) := by omega
          have hwi : IntKind.i64.wrap ((i : Int) + 1) = ((i + 1 : Nat) : Int) := by rw [IntWalk.i64_in _ (by omega)]; omega
          go_wp2_with fail
          exact ⟨⟨n2, i + 1, by omega, rfl, by go_num, hn2, NXT.out n2 (fun _ => hnn) (fun h => by omega), hb⟩, by simp [intOf]; omega⟩
    · have hge : ¬ (i : Int) < (L.length : Int) := by omega
      go_wp2_with fail
      go_ret
      refine ⟨_, rfl, fun hf q hq => ?_, hb⟩
      obtain ⟨j, hj, e⟩ := List.mem_iff_getElem.1 hq
      exact HALL.out (by have h15 : (n : Int) < 1500 := (by simpa using hf); omega) j q (by omega) (by rw [List.getElem?_eq_getElem hj, e])

theorem inV_key {l : List Val} {v : Val} (hl : ∀ u ∈ l, u.may = true) (hv : v.may = true) : inV l v = decide (v.key ∈ keysV l) := by
  have e : ∀ u ∈ l, (sameV u v = true ↔ u.key = v.key) := fun u hu => by
    rw [sameV, hl u hu, hv, key_same (hl u hu) hv]; simp
  by_cases h : v.key ∈ keysV l
  · rw [decide_eq_true h]
    obtain ⟨u, hu, hk⟩ := List.mem_map.1 h
    exact List.any_eq_true.2 ⟨u, hu, (e u hu).2 hk⟩
  · rw [decide_eq_false h, inV, List.any_eq_false]
    intro u hu hs
    exact h (List.mem_map.2 ⟨u, hu, (e u hu).1 hs⟩)
/-- A merged set's elements, as SetsHas asks. -/
theorem has_law {b l r m : List Val} {u : Int} {v : Val} (hm : Merged (keysV b) (keysV l) (keysV r) u (keysV m)) (hb : ∀ x ∈ b, x.may = true) (hl : ∀ x ∈ l, x.may = true) (hr : ∀ x ∈ r, x.may = true) (hmm : ∀ x ∈ m, x.may = true) (hv : v.may = true) :
    inV m v = ((inV b v && inV l v && inV r v) || (!inV b v && (inV l v || inV r v))) := by
  rw [inV_key hmm hv, inV_key hb hv, inV_key hl hv, inV_key hr hv]
  have h := hm.mem (s := v.key)
  by_cases h0 : v.key ∈ keysV m <;> by_cases h1 : v.key ∈ keysV b <;> by_cases h2 : v.key ∈ keysV l <;> by_cases h3 : v.key ∈ keysV r <;> simp [h0, h1, h2, h3] at h ⊢
theorem once_law {m : List Val} (hn : (keysV m).Nodup) (hmm : ∀ x ∈ m, x.may = true) {i : Nat} {v : Val} (hi : m[i]? = some v) : inV (m.take i) v = false := by
  rw [inV_key (fun x hx => hmm x (List.mem_of_mem_take hx)) (hmm v (List.mem_of_getElem? hi)), decide_eq_false_iff_not]
  have h1 : (keysV m)[i]? = some v.key := by rw [keysV, List.getElem?_map, hi]; rfl
  have h2 := take_nodup hn h1
  rwa [keysV, ← List.map_take] at h2
theorem of_sides {b l r m : List Val} {u : Int} {v : Val} (hm : Merged (keysV b) (keysV l) (keysV r) u (keysV m)) (hl : ∀ x ∈ l, x.may = true) (hr : ∀ x ∈ r, x.may = true) (hv : v.may = true) (hin : v ∈ m) : (inV l v || inV r v) = true := by
  rw [inV_key hl hv, inV_key hr hv]
  have h := hm.mem.1 (List.mem_map_of_mem hin)
  rcases h with ⟨-, h, -⟩ | ⟨-, h | h⟩ <;> simp [h]
theorem bad_split {b l r : List Val} : anyBad (b ++ l ++ r) = false ↔ (∀ x ∈ b, x.may = true) ∧ (∀ x ∈ l, x.may = true) ∧ ∀ x ∈ r, x.may = true := by
  rw [anyBad_not]
  constructor
  · intro h
    exact ⟨fun x hx => h x (by simp [hx]), fun x hx => h x (by simp [hx]), fun x hx => h x (by simp [hx])⟩
  · rintro ⟨h1, h2, h3⟩ x hx
    rcases List.mem_append.1 hx with hx | hx
    · rcases List.mem_append.1 hx with hx | hx
      · exact h1 x hx
      · exact h2 x hx
    · exact h3 x hx
theorem OwnC.at_ {w : World} {base e size : Nat} {a : Option Addr} {n cap : Nat} {xs : List Value} (h : OwnC w base e size a n cap xs) (hc : 0 < cap) :
    ∃ g, a = some ⟨g, 0, none⟩ ∧ base ≤ g ∧ g < w.heap.size ∧ (∃ cs, w.heap[g]? = some (.cells cs e (0, 0)) ∧ cap * size ≤ cs.size) ∧ ∀ w' : World, w'.heap[g]? = w.heap[g]? → OwnC w' base e size a n cap xs := by
  obtain ⟨h1, h2, h3⟩ := h
  obtain ⟨g, cur, e1, hb, hh, h4, h5⟩ := h3 hc
  have hlt : g < w.heap.size := by
    rcases Nat.lt_or_ge g w.heap.size with hlt | hge
    · exact hlt
    · rw [Array.getElem?_eq_none hge] at hh; cases hh
  exact ⟨g, e1, hb, hlt, ⟨cur, hh, h4⟩, fun w' hw => ⟨h1, h2, fun _ => ⟨g, cur, e1, hb, hw.trans hh, h4, h5⟩⟩⟩
theorem cells_at {w : World} {g j : Nat} {cs : Array Value} {T : TypeId} (h : w.heap[g]? = some (.cells cs T (0, 0))) (hj : j < cs.size) : (∃ u, w.cell? ⟨g, j, none⟩ = some u) ∧ w.frozen? ⟨g, j, none⟩ = false := by
  constructor
  · simp only [World.cell?, h]
    exact ⟨cs[j], by simp [hj]⟩
  · simp [World.frozen?, h]
theorem set_cells {w : World} {g j : Nat} {cs : Array Value} {T : TypeId} (v : Value) (h : w.heap[g]? = some (.cells cs T (0, 0))) : ∃ cs', (w.setCell ⟨g, j, none⟩ v).heap[g]? = some (.cells cs' T (0, 0)) ∧ cs'.size = cs.size :=
  ⟨_, set_blk h _ _, by simp⟩
end Go.Proofs.YtjihepdjcbpgoaaGreatDoor
