/-
  paths.show, paths.bracket, and the closure 'up' of paths.Parse, as plain functions of bytes. Conditions: texts of bounded length; the library's variables hold what they are laid to hold.
-/
import Derived.Test.YtdapimjhjnbfdaaDoorR4
namespace Go.Proofs.YtdapimjhjnbfdaaDoor
open Go.RowKit

theorem ex_take (s : ByteArray) (n : Nat) : s.extract 0 n = ⟨(s.data.toList.take n).toArray⟩ := by
  apply ByteArray.ext
  apply Array.toList_inj.1
  rw [ByteArray.data_extract, Array.toList_extract, List.extract_eq_take_drop]
  simp
theorem ex_drop (s : ByteArray) (n : Nat) : s.extract n s.size = ⟨(s.data.toList.drop n).toArray⟩ := by
  apply ByteArray.ext
  apply Array.toList_inj.1
  rw [ByteArray.data_extract, Array.toList_extract, List.extract_eq_take_drop]
  simp only [List.toList_toArray]
  apply List.take_of_length_le
  simp
theorem tw_take {p : UInt8 → Bool} : ∀ l : List UInt8, l.take (l.takeWhile p).length = l.takeWhile p ∧ l.drop (l.takeWhile p).length = l.dropWhile p
  | [] => by simp
  | c :: l => by
    have ih := tw_take (p := p) l
    rw [List.takeWhile_cons, List.dropWhile_cons]
    cases hp : p c
    · simp
    · simp [ih.1, ih.2]
def UpPost (bs : Nat) (p : UInt8 → Bool) (l : List UInt8) (w : World) (e : Ending) (w' : World) : Prop :=
  e = .returned (.string ⟨(l.takeWhile p).toArray⟩) ∧ ∃ w1, Below w.heap.size w w1 ∧ w' = w1.setCell ⟨bs, 0, none⟩ (.string ⟨(l.dropWhile p).toArray⟩)

set_option maxRecDepth 100000 in
set_option maxHeartbeats 1600000 in
theorem up_c (w : World) (bs : Nat) (s chars : ByteArray) (cl : List UInt8) (hs : s.size ≤ 1048576)
    (HC : ∀ W, Calls Tryd.prog 50 #[.string s, .string chars] W (Ret (.int .i64 (Lib.indexAny s.data.toList cl)) W)) (h0 : w.heap[bs]? = some (.cells #[.string s] 9 (0, 0))) :
    Calls Tryd.prog 49 #[.string chars, .pointer (some ⟨bs, 0, none⟩)] w (UpPost bs (fun c => !cl.contains c) s.data.toList w) := by
  have HI := fun W => Lib.hid (HC W)
  clear HC
  have hbs : bs < w.heap.size := by
    rcases Nat.lt_or_ge bs w.heap.size with h' | h'
    · exact h'
    · rw [Array.getElem?_eq_none h'] at h0; cases h0
  have c0 : w.cell? ⟨bs, 0, none⟩ = some (.string s) := by simp [World.cell?, h0]
  have f0 : w.frozen? ⟨bs, 0, none⟩ = false := by simp [World.frozen?, h0]
  have hix := indexAny_drop cl s.data.toList
  obtain ⟨t1, t2⟩ := tw_take (p := fun c => !cl.contains c) s.data.toList
  have HT := Lib.hid t1
  have HD := Lib.hid t2
  have hlen : (s.data.toList.takeWhile (fun c => !cl.contains c)).length ≤ s.size := by
    have := (List.takeWhile_prefix (fun c => !cl.contains c) (l := s.data.toList)).length_le
    simpa using this
  have HN := Lib.hid (show s.data.toList.dropWhile (fun c => !cl.contains c) = [] → s.data.toList.takeWhile (fun c => !cl.contains c) = s.data.toList from fun h => by
    have := List.takeWhile_append_dropWhile (p := fun c => !cl.contains c) (l := s.data.toList)
    rw [h, List.append_nil] at this; exact this)
  clear t1 t2
  by_cases hd : s.data.toList.dropWhile (fun c => !cl.contains c) = []
  · rw [if_pos hd] at hix
    have HX := Lib.hid hix
    have HNn := Lib.hid (HN.out hd)
    have HDn := Lib.hid hd
    clear hix hd hlen
    generalize hTT : s.data.toList.takeWhile (fun c => !cl.contains c) = T at *
    generalize hDD : s.data.toList.dropWhile (fun c => !cl.contains c) = D at *
    have HTT := Lib.hid hTT
    have HDD := Lib.hid hDD
    clear hTT hDD
    go_enter Tryd.func49, Tryd.ntmps49
    go_wp2_with (go_at_call 50; refine (HI _).out.mono ?_; rintro e w1 ⟨rfl, hb⟩; rw [HX.out]; have c1 := (hb.cell (p := ⟨bs, 0, none⟩) hbs).trans c0; have hz : bs < w1.heap.size := Nat.lt_of_lt_of_le hbs hb.size; have f1 : w1.frozen? ⟨bs, 0, none⟩ = false := (hb.frozen (p := ⟨bs, 0, none⟩) hbs).trans f0)
    go_ret
    refine ⟨?_, w1, hb, ?_⟩
    · rw [HTT.out, HNn.out]; rfl
    · rw [HDD.out, HDn.out]; rfl
  · rw [if_neg hd] at hix
    have HX := Lib.hid hix
    clear hix hd HN
    generalize hTT : s.data.toList.takeWhile (fun c => !cl.contains c) = T at *
    generalize hDD : s.data.toList.dropWhile (fun c => !cl.contains c) = D at *
    have hlen2 : (T.length : Int) ≤ s.size := by omega
    have HTT := Lib.hid hTT
    have HDD := Lib.hid hDD
    clear hTT hDD
    go_enter Tryd.func49, Tryd.ntmps49
    go_wp2_with (go_at_call 50; refine (HI _).out.mono ?_; rintro e w1 ⟨rfl, hb⟩; rw [HX.out]; have c1 := (hb.cell (p := ⟨bs, 0, none⟩) hbs).trans c0; have hz : bs < w1.heap.size := Nat.lt_of_lt_of_le hbs hb.size; have f1 : w1.frozen? ⟨bs, 0, none⟩ = false := (hb.frozen (p := ⟨bs, 0, none⟩) hbs).trans f0)
    go_ret
    refine ⟨?_, w1, hb, ?_⟩
    · have e1 := ex_take s T.length
      rw [HT.out] at e1
      rw [HTT.out, ← e1]; rfl
    · have e1 := ex_drop s T.length
      rw [HD.out] at e1
      rw [HDD.out, ← e1]

/-! paths.show -/
def ShowPost (l : List UInt8) (w : World) (e : Ending) (w' : World) : Prop :=
  ∃ (b : List UInt8) (ok : Bool), e = .returned (.tuple #[.string ⟨b.toArray⟩, .bool ok]) ∧ Below w.heap.size w w' ∧ b.length ≤ l.length ∧ showP l = if ok then some b else none
theorem hexU_lt (c : Nat) : -1 ≤ hexU c ∧ hexU c ≤ 15 := by
  unfold hexU
  split
  · omega
  · split
    · omega
    · split <;> omega
theorem fold2 (x y : UInt8) : hexFold [x, y] 0 = if hexU x.toNat < 0 ∨ hexU y.toNat < 0 then none else some (16 * hexU x.toNat + hexU y.toNat) := by
  rw [hexFold]
  by_cases hx : hexU x.toNat < 0
  · rw [if_pos hx, if_pos (.inl hx)]
  · rw [if_neg hx, hexFold]
    by_cases hy : hexU y.toNat < 0
    · rw [if_pos hy, if_pos (.inr hy)]
    · rw [if_neg hy, hexFold, if_neg (by omega)]
      congr 1; omega
theorem ex_two (s : ByteArray) (k : Nat) (h : k + 1 < s.size) : s.extract k (k + 2) = ⟨#[s[k], s[k + 1]]⟩ := by
  apply ByteArray.ext
  apply Array.toList_inj.1
  rw [ByteArray.data_extract, Array.toList_extract, List.extract_eq_take_drop, drop_cons_ba s k (by omega), drop_cons_ba s (k + 1) h]
  simp [show k + 2 - k = 2 by omega]

set_option maxRecDepth 100000 in
set_option maxHeartbeats 3200000 in
theorem show_c (w : World) (s : ByteArray) (hs : s.size ≤ 1048576) (he : Errs w) :
    Calls Tryd.prog 51 #[.string s] w (ShowPost s.data.toList w) := by
  go_enter Tryd.func51, Tryd.ntmps51
  go_wp2_with fail
  go_loopw [5] (fun i wr => ∃ (k : Nat) (out : List UInt8), k ≤ s.size ∧ i = .int .i64 k ∧ out.length ≤ k ∧ Bld w.heap.size w.heap.size out wr ∧ dec s.data.toList = (dec (s.data.toList.drop k)).map (out ++ ·) ∧ Below w.heap.size w wr) (fun i _ => s.size - (intOf i).toNat)
  case atStart => exact ⟨0, [], Nat.zero_le _, rfl, Nat.zero_le _, fresh_l w, by simp, (Below.refl _ _).alloc (Nat.le_refl _) _⟩
  case round =>
    obtain ⟨k, out, hk, rfl, hol, hB, hr, hbw⟩ := hrel
    have HR := Lib.hid hr
    clear hr
    have hsz := hbw.size
    have hol1 : out.length + 1 ≤ 140737488355328 := by omega
    by_cases hlt : k < s.size
    · have hD := drop_cons_ba s k hlt
      by_cases hp : s[k] = 37
      · have b0 : ((s[k].toNat : Int) != 37) = false := by rw [hp]; rfl
        by_cases hl2 : k + 2 < s.size
        · have hD1 := drop_cons_ba s (k + 1) (by omega)
          have hD2 := drop_cons_ba s (k + 2) hl2
          have hx := Lib.hid (ex_two s (k + 1) (by omega))
          have hsz2 : (s.extract (k + 1) (k + 3)).size = 2 := by rw [hx.out]; rfl
          have hdl : (s.extract (k + 1) (k + 3)).data.toList = [s[k + 1], s[k + 2]] := by rw [hx.out]
          have hf := fold2 s[k + 1] s[k + 2]
          have u1 := hexU_lt s[k + 1].toNat
          have u2 := hexU_lt s[k + 2].toNat
          by_cases hbad : hexU s[k + 1].toNat < 0 ∨ hexU s[k + 2].toNat < 0
          · have HP := fun W hW => Lib.hid (puint_bad (s.extract (k + 1) (k + 3)) hsz2 (by rw [hdl, hf, if_pos hbad]) W hW)
            have hfin := Lib.hid (show showP s.data.toList = none by
              have : dec s.data.toList = none := by rw [HR.out, hD, hD1, hD2, dec, if_neg (by simp [hp]), if_pos hbad]; rfl
              simp only [showP, this])
            have he2 := he.below hbw
            clear hf hdl hsz2 hD hD1 hD2 u1 u2 hbad hp
            go_wp2_with (go_at_call 89; refine (HP _ he2).out.mono ?_; rintro e w2 ⟨v, t, p, rfl, hb2⟩)
            go_ret2
            exact ⟨[], false, rfl, below_via hbw hb2, Nat.zero_le _, by rw [hfin.out]; rfl⟩
          · obtain ⟨c, hc⟩ : ∃ c : UInt8, c = UInt8.ofNat (16 * hexU s[k + 1].toNat + hexU s[k + 2].toNat).toNat := ⟨_, rfl⟩
            have hcn : 16 * hexU s[k + 1].toNat + hexU s[k + 2].toNat = (c.toNat : Int) := by rw [hc]; simp; omega
            have HP := fun W => Lib.hid (puint_ok (s.extract (k + 1) (k + 3)) hsz2 (c.toNat : Int) (by rw [hdl, hf, if_neg hbad, hcn]) W)
            have hfin := Lib.hid (show dec s.data.toList = (dec (s.data.toList.drop (k + 3))).map ((out ++ [c]) ++ ·) by
              rw [HR.out, hD, hD1, hD2, dec, if_neg (by simp [hp]), if_neg hbad, ← hc]
              simp [Function.comp_def])
            have hc256 := c.toNat_lt
            clear hf hdl hsz2 hD hD1 hD2 u1 u2 hbad hp hcn hc
            go_wp2_with (first
              | (go_at_call 89; refine (HP _).out.mono ?_; rintro e w2 ⟨rfl, hb2⟩
                 have hB2 := hB.below hb2
                 have hsz3 : w.heap.size ≤ w2.heap.size := Nat.le_trans hsz hb2.size)
              | (go_at_call 88; refine (wbyte_l _ _ _ _ _ hB2 hol1 hsz3).mono ?_; rintro e w3 ⟨rfl, hB3, hb3, hk3⟩))
            exact ⟨⟨k + 3, out ++ [c], by omega, by go_num, by simp; omega, hB3, hfin.out, (below_via hbw hb2).trans hb3⟩, by simp [intOf]; omega⟩
        · have hd : decide ((s.size : Int) ≤ (k : Int) + 2) = true := by simp; omega
          have hfin := Lib.hid (show showP s.data.toList = none by
            have : dec s.data.toList = none := by
              rw [HR.out, hD, dec.eq_def]
              simp only [hp]
              have : (s.data.toList.drop (k + 1)).length < 2 := by simp; omega
              match s.data.toList.drop (k + 1), this with
              | [], _ => simp
              | [a], _ => simp
            simp only [showP, this])
          clear hp hD hl2
          go_wp2_with fail
          go_ret2
          exact ⟨[], false, rfl, hbw, Nat.zero_le _, by rw [hfin.out]; rfl⟩
      · have b0 : ((s[k].toNat : Int) != 37) = true := by
          rw [bne_iff_ne]; intro e; apply hp; apply UInt8.toNat_inj.1; simp; omega
        have hfin := Lib.hid (show dec s.data.toList = (dec (s.data.toList.drop (k + 1))).map ((out ++ [s[k]]) ++ ·) by
          rw [HR.out, hD, dec.eq_def]
          show Option.map _ (if s[k] ≠ 37 then _ else _) = _
          rw [if_pos hp]
          simp [Function.comp_def])
        clear hp hD
        go_wp2_with (go_at_call 88; refine (wbyte_l _ _ _ _ _ hB hol1 hsz).mono ?_; rintro e w3 ⟨rfl, hB3, hb3, hk3⟩)
        exact ⟨⟨k + 1, out ++ [s[k]], by omega, by go_num, by simp; omega, hB3, hfin.out, hbw.trans hb3⟩, by simp [intOf]; omega⟩
    · have hfin := Lib.hid (show showP s.data.toList = if ((⟨(hideL out).toArray⟩ : ByteArray).toList == s.toList) = true then some out else none by
        have : dec s.data.toList = some out := by rw [HR.out, List.drop_of_length_le (by simp; omega)]; simp [dec]
        simp only [showP, this, str_beq]
        by_cases hh : hideL out = s.data.toList
        · rw [if_pos hh, if_pos (by rw [hh]; simp)]
        · rw [if_neg hh, if_neg (by
            simp only [decide_eq_true_eq]
            intro e; apply hh; rw [← e])])
      have HH := fun W => Lib.hid (hide_c W ⟨out.toArray⟩ (by show out.length ≤ _; omega))
      have hol2 : out.length ≤ s.size := by omega
      go_wp2_with (first
        | (go_at_call 90; refine (HH _).out.mono ?_; rintro e w4 ⟨rfl, hb4⟩)
        | (go_at_call 59; first
            | (refine (bstring_l _ _ _ _ hB2 hsz2).mono ?_; rintro e w3 ⟨rfl, hB3, hb3, hk3⟩)
            | (refine (bstring_l _ _ _ _ hB hsz).mono ?_; rintro e w2 ⟨rfl, hB2, hb2, hk2⟩; have hsz2 : w.heap.size ≤ w2.heap.size := Nat.le_trans hsz hb2.size)))
      go_ret2
      refine ⟨out, _, rfl, ?_, by simpa using hol2, by rw [hfin.out, ByteArray.toList_eq ⟨(hideL out).toArray⟩]⟩
      exact (hbw.trans (hb2.trans hb3)).trans (hb4.mono (Nat.le_trans hsz2 hb3.size))
end Go.Proofs.YtdapimjhjnbfdaaDoor
