/-
  The walk of inarchlaw16.PathsBack: it answers true, and nothing that was there turns. Conditions: the arguments read as data with bounded lengths; the library's variables hold what they are laid to hold.
-/
import Derived.Test.YtdapimjhjnbfdaaDoorPathsText
namespace Go.Proofs.YtdapimjhjnbfdaaDoor
open Go.RowKit

theorem bl_tri : ∀ a b : List UInt8, (Op.bytesLess a b = true ∧ Op.bytesLess b a = false ∧ a ≠ b) ∨ (Op.bytesLess a b = false ∧ Op.bytesLess b a = true ∧ a ≠ b) ∨ a = b
  | [], [] => .inr (.inr rfl)
  | [], y :: b => .inl ⟨rfl, rfl, by simp⟩
  | x :: a, [] => .inr (.inl ⟨rfl, rfl, by simp⟩)
  | x :: a, y :: b => by
    by_cases hxy : x = y
    · subst hxy
      have e1 : Op.bytesLess (x :: a) (x :: b) = Op.bytesLess a b := by simp [Op.bytesLess]
      have e2 : Op.bytesLess (x :: b) (x :: a) = Op.bytesLess b a := by simp [Op.bytesLess]
      rw [e1, e2]
      rcases bl_tri a b with ⟨h1, h2, h3⟩ | ⟨h1, h2, h3⟩ | h
      · exact .inl ⟨h1, h2, by simpa using h3⟩
      · exact .inr (.inl ⟨h1, h2, by simpa using h3⟩)
      · exact .inr (.inr (by rw [h]))
    · have h1 : (x == y) = false := by simp [hxy]
      have h2 : (y == x) = false := by simp [Ne.symm hxy]
      simp only [Op.bytesLess, h1, h2, Bool.false_and, Bool.or_false, decide_eq_true_eq, decide_eq_false_iff_not]
      rcases Nat.lt_or_ge x.toNat y.toNat with h | h
      · exact .inl ⟨by rw [UInt8.lt_iff_toNat_lt]; exact h, by rw [UInt8.lt_iff_toNat_lt]; omega, by simp [hxy]⟩
      · have : x.toNat ≠ y.toNat := fun e => hxy (UInt8.toNat_inj.1 e)
        exact .inr (.inl ⟨by rw [UInt8.lt_iff_toNat_lt]; omega, by rw [UInt8.lt_iff_toNat_lt]; omega, by simp [hxy]⟩)
theorem cmpStr_anti (a b : ByteArray) : cmpStr b a = -cmpStr a b := by
  have hl : ∀ x y : ByteArray, x.toList = y.toList → x = y := fun x y h => by
    rw [ByteArray.toList_eq, ByteArray.toList_eq] at h
    exact ByteArray.ext (Array.toList_inj.1 h)
  unfold cmpStr
  rcases bl_tri a.toList b.toList with ⟨h1, h2, h3⟩ | ⟨h1, h2, h3⟩ | h
  · have : ¬ b = a := fun e => h3 (by rw [e])
    simp [h1, h2, this]
  · have : ¬ a = b := fun e => h3 (by rw [e])
    simp [h1, h2, this]
  · have := hl _ _ h
    subst this
    simp [bytesLess_irrefl]
theorem cmpInt_anti (a b : Int) : cmpInt b a = -cmpInt a b := by
  unfold cmpInt
  repeat' split
  all_goals omega
theorem cmpStr_bd (a b : ByteArray) : -1 ≤ cmpStr a b ∧ cmpStr a b ≤ 1 := by
  unfold cmpStr
  repeat' split
  all_goals omega
theorem cmpInt_bd (a b : Int) : -1 ≤ cmpInt a b ∧ cmpInt a b ≤ 1 := by
  unfold cmpInt
  repeat' split
  all_goals omega
theorem cmpSt_anti (x y : St) : cmpSt y x = -cmpSt x y := by
  simp only [cmpSt, orInt, cmpStr_anti x.t y.t, cmpStr_anti x.i y.i, cmpInt_anti x.k y.k, cmpInt_anti x.a y.a]
  repeat' split
  all_goals omega
theorem cmpSt_bd (x y : St) : -1 ≤ cmpSt x y ∧ cmpSt x y ≤ 1 := by
  have h1 := cmpInt_bd x.k y.k
  have h2 := cmpStr_bd x.t y.t
  have h3 := cmpInt_bd x.a y.a
  have h4 := cmpStr_bd x.i y.i
  simp only [cmpSt, orInt]
  repeat' split
  all_goals omega
theorem cmpSts_anti : ∀ l m : List St, cmpSts m l = -cmpSts l m
  | [], [] => rfl
  | [], _ :: _ => rfl
  | _ :: _, [] => rfl
  | x :: l, y :: m => by
    have h := cmpSt_anti x y
    have ih := cmpSts_anti l m
    simp only [cmpSts]
    by_cases h0 : cmpSt x y = 0
    · rw [if_pos h0, if_pos (by omega), ih]
    · rw [if_neg h0, if_neg (by omega), h]
theorem cmpSts_bd : ∀ l m : List St, -1 ≤ cmpSts l m ∧ cmpSts l m ≤ 1
  | [], [] => by decide
  | [], _ :: _ => by simp [cmpSts]
  | _ :: _, [] => by simp [cmpSts]
  | x :: l, y :: m => by
    have h := cmpSt_bd x y
    have ih := cmpSts_bd l m
    simp only [cmpSts]
    split <;> assumption
theorem cmpSts_zero : ∀ l m : List St, cmpSts l m = 0 ↔ l = m
  | [], [] => by simp [cmpSts]
  | [], _ :: _ => by simp [cmpSts]
  | _ :: _, [] => by simp [cmpSts]
  | x :: l, y :: m => by
    have ih := cmpSts_zero l m
    simp only [cmpSts, List.cons.injEq]
    by_cases h0 : cmpSt x y = 0
    · rw [if_pos h0, ih]
      have := cmpSt_zero.1 h0
      simp [this]
    · rw [if_neg h0]
      have : ¬ x = y := fun e => h0 (cmpSt_zero.2 e)
      simp [this, h0]

theorem total_snoc (l : List St) (k : Nat) (s : St) (h : l[k]? = some s) : total (l.take (k + 1)) = total (l.take k) + (s.t.size + s.i.size) := by
  have hk := (List.getElem?_eq_some_iff.1 h).1
  rw [List.take_succ_eq_append_getElem hk]
  have : l[k] = s := (List.getElem?_eq_some_iff.1 h).2
  simp [total, List.sum_append, this]
def GreatPost (l : List St) (w : World) (e : Ending) (w' : World) : Prop := ∃ r : Bool, e = .returned (.bool r) ∧ Below w.heap.size w w' ∧ (r = false → total l + l.length < 3000)

set_option maxRecDepth 100000 in
set_option maxHeartbeats 400000 in
theorem great16x (w : World) (a : Option Addr) (cap : Nat) (l : List St) (h : Sts w 0 w.heap.size a l) (hf : Fit l) :
    Calls Tryd.prog 10 #[.slice a l.length cap] w (GreatPost l w) := by
  obtain ⟨hl, hs⟩ := hf
  go_enter Tryd.func10, Tryd.ntmps10
  go_wp2_with fail
  go_loopw [3, 4] (fun n i wr => ∃ k m : Nat, k ≤ l.length ∧ i = .int .i64 k ∧ n = .int .i64 m ∧ m ≤ 3100000 ∧ Hid (m = total (l.take k) + k) ∧ Below w.heap.size w wr) (fun _ i _ => l.length - (intOf i).toNat)
  case atStart => exact ⟨0, 0, Nat.zero_le _, rfl, rfl, by omega, Lib.hid (by simp [total]), Below.refl _ _⟩
  case round =>
    obtain ⟨k, m, hk, rfl, rfl, hm, heq, hbw⟩ := hrel
    by_cases hlt : k < l.length
    · have hks : l[k]? = some l[k] := List.getElem?_eq_getElem hlt
      have hT := Lib.hid (total_snoc l k _ hks)
      generalize l[k] = s at hks hT
      obtain ⟨b, off, rfl, -, hb1, hb2, h0, h1, h2, h3⟩ := h.at_ hks
      obtain ⟨z1, z2, -, -⟩ := hs s (List.mem_of_getElem? hks)
      rw [← hbw.cell (p := ⟨_, _, none⟩) hb2] at h0 h1 h2 h3
      have hbb : b < wr.heap.size := Nat.lt_of_lt_of_le hb2 hbw.size
      have hlt' : (k : Int) < (l.length : Int) := by omega
      clear hs h hks h0 h3
      by_cases hm2 : m < 3000
      · go_wp2_with fail
        go_quiet (fail)
        go_wp2_with fail
        exact ⟨⟨k + 1, m + 1 + s.t.size + s.i.size, by omega, by go_num, by go_num, by omega, Lib.hid (by rw [hT.out, heq.out]; omega), below_drewN hbw _⟩, by simp [intOf]; omega⟩
      · have hd : decide ((3000 : Int) ≤ (m : Int)) = true := by simp; omega
        go_wp2
        go_ret
        exact ⟨true, rfl, hbw, fun h => by cases h⟩
    · have hfin := Lib.hid (show m = total l + l.length by
        have := heq.out
        rw [show k = l.length by omega, List.take_length] at this
        exact this)
      by_cases hm2 : m < 3000
      · have hd : decide ((3000 : Int) ≤ (m : Int)) = false := by simp; omega
        have hM := Lib.hid hm2
        clear hm2
        go_wp2
        go_ret
        exact ⟨false, rfl, hbw, fun _ => by rw [← hfin.out]; exact hM.out⟩
      · have hd : decide ((3000 : Int) ≤ (m : Int)) = true := by simp; omega
        go_wp2
        go_ret
        exact ⟨true, rfl, hbw, fun h => by cases h⟩

theorem parse_back {l : List UInt8} {q : List St} (h : progParse l = some q) {e : Ending} {w w' : World} (hp : ParsePost l w e w') : Below w.heap.size w w' ∧ ∃ a, e = .returned (.tuple #[.slice a q.length q.length, .bool true]) ∧ Sts w' 0 w'.heap.size a q := by
  refine ⟨hp.1, ?_⟩
  rcases hp.2 with ⟨h2, _⟩ | ⟨p, a, h2, he, ho⟩
  · rw [h] at h2; cases h2
  · rw [h] at h2; injection h2 with h2; subst h2; exact ⟨a, he, ownC_sts ho⟩

set_option maxRecDepth 100000 in
set_option maxHeartbeats 4000000 in
theorem pathsBack (w : World) (a b : Option Addr) (ca cb : Nat) (l m : List St) (ha : Sts w 0 w.heap.size a l) (hb : Sts w 0 w.heap.size b m) (fl : Fit2 l) (fm : Fit2 m) (hca : l.length ≤ ca) (hp : Pow w) (he : Errs w) (hm : MaxL w) :
    Calls Tryd.prog 9 #[.slice a l.length ca, .slice b m.length cb] w (Ret (.bool true) w) := by
  have hl1 := fl.1.1
  have hm1 := fm.1.1
  have L0 := fun W (h : Below w.heap.size w W) => Lib.hid (lives16 W (hp.below h))
  have C1 := fun W (h : Below w.heap.size w W) => Lib.hid (great16x W a ca l (ha.up h) fl.1)
  have C2 := fun W (h : Below w.heap.size w W) => Lib.hid (great16x W b cb m (hb.up h) fm.1)
  have C3 := fun W (h : Below w.heap.size w W) => Lib.hid (may16 W a ca l (ha.up h) hl1)
  have C4 := fun W (h : Below w.heap.size w W) => Lib.hid (may16 W b cb m (hb.up h) hm1)
  go_enter Tryd.func9, Tryd.ntmps9
  go_wp2_with fail
  refine (C1 _ (Below.refl _ _)).out.mono ?_
  rintro e w1 ⟨r1, rfl, hb1, hg1⟩
  cases r1
  · have hg1 := hg1 rfl
    go_wp2_with fail
    refine (C2 _ hb1).out.mono ?_
    rintro e w2 ⟨r2, rfl, hb2', hg2⟩
    have hb2 := below_via hb1 hb2'
    cases r2
    · have hg2 := hg2 rfl
      by_cases hml : mayL l = true
      · rw [hml] at C3
        by_cases hmm : mayL m = true
        · rw [hmm] at C4
          have hlen := flat_write_len l fl.2
          have hsz : (textL l).length ≤ 1000000 := by
            unfold textL
            rw [if_pos hml]
            split
            · simp
            · omega
          have hline := textL_line l
          have hback := prog_back hml (fun x hx => (fl.2 x hx).2)
          obtain ⟨TB, hTB⟩ : ∃ TB : ByteArray, (⟨(textL l).toArray⟩ : ByteArray) = TB := ⟨_, rfl⟩
          have hTl : TB.data.toList = textL l := by rw [← hTB]
          have htx : (TB.toList == textL m) = decide (l = m) := by
            rw [ByteArray.toList_eq, hTl]
            by_cases h : l = m
            · subst h; simp
            · have : ¬ textL l = textL m := fun e => h (textL_inj hml hmm (fun x hx => (fl.2 x hx).2) (fun x hx => (fm.2 x hx).2) e)
              simp [h, this]
          have hcz : (cmpSts l m == 0) = decide (l = m) := by
            by_cases h : l = m
            · rw [(cmpSts_zero l m).2 h]; simp [h]
            · have : ¬ cmpSts l m = 0 := fun e => h ((cmpSts_zero l m).1 e)
              simp [h, this]
          have C5 := fun W (h : Below w.heap.size w W) => Lib.hid (text16 W a ca l (ha.up h) fl (by omega) (hp.below h))
          have C6 := fun W (h : Below w.heap.size w W) => Lib.hid (text16 W b cb m (hb.up h) fm (by omega) (hp.below h))
          simp only [hTB] at C5
          have hTs : TB.size ≤ 1000000 := by rw [← hTB]; exact hsz
          have C7 := fun W (h : Below w.heap.size w W) => Lib.hid (parse_c W TB (by omega) (he.below h) (hp.below h) (hm.below h))
          simp only [hTl] at C7
          rw [← hTl] at hline
          have hline := Lib.hid hline
          have hback := Lib.hid hback
          have C8 := fun W (h : Below w.heap.size w W) => Lib.hid (same16 W a b ca cb l m (ha.up h) (hb.up h) hl1 (by omega))
          have C9 := fun W (h : Below w.heap.size w W) => Lib.hid (cmp16 W a b ca cb l m (ha.up h) (hb.up h) hl1 hm1)
          have C10 := fun W (h : Below w.heap.size w W) => Lib.hid (cmp16 W b a cb ca m l (hb.up h) (ha.up h) hm1 hl1)
          rw [cmpSts_anti l m] at C10
          have C11 := fun W (h : Below w.heap.size w W) => Lib.hid (begins16 W a none ca 0 l [] (ha.up h) SlE.nil hl1 hca)
          have C12 := fun W (h : Below w.heap.size w W) => Lib.hid (to16 W a ca l ⟨0, ⟨#[]⟩, ⟨#[]⟩, 0⟩ (ha.up h) hl1 hca)
          obtain ⟨L, hL⟩ : ∃ L : List St, l ++ [(⟨0, ⟨#[]⟩, ⟨#[]⟩, 0⟩ : St)] = L := ⟨_, rfl⟩
          have hLl : L.length ≤ 1048576 := by rw [← hL]; simp; omega
          have hLd := Lib.hid (show decide (l.length ≤ L.length ∧ L.take l.length = l) = true by rw [← hL]; simp)
          simp only [hL] at C12
          clear hL
          obtain ⟨c1, c2⟩ := cmpSts_bd l m
          simp only [List.length_nil, Nat.zero_le, List.take_zero, and_self, decide_true] at C11
          clear hml hmm hlen hTB hTl hsz
          go_wp2_with (first
            | (go_at_call 21; first
                | ((with_reducible refine (C3 _ hb2).out.mono ?_); rintro e w3 ⟨rfl, hb3'⟩; have hb3 := below_via hb2 hb3')
                | ((with_reducible refine (C4 _ hb3).out.mono ?_); rintro e w4 ⟨rfl, hb4'⟩; have hb4 := below_via hb3 hb4'))
            | (go_at_call 23; (with_reducible refine (C5 _ hb4).out.mono ?_); rintro e w5 ⟨rfl, hb5'⟩; have hb5 := below_via hb4 hb5')
            | (go_at_call 19; refine (C7 _ hb5).out.mono ?_; rintro e w6 hpp; obtain ⟨hb6', q, rfl, hsq⟩ := parse_back hback.out hpp; clear hpp; have hb6 := below_via hb5 hb6'; have C13 := Lib.hid (same16 w6 q a l.length ca l l hsq (ha.up hb6) hl1 (by omega)); simp only [decide_true] at C13; clear hsq)
            | (go_at_call 13; refine C13.out.mono ?_; rintro e w7 ⟨rfl, hb7'⟩; have hb7 := below_via hb6 hb7'))
          clear C13
          go_loopw [8] (fun i wr => ∃ k : Nat, k ≤ TB.size ∧ i = .int .i64 k ∧ Below w.heap.size w wr) (fun i _ => TB.size - (intOf i).toNat)
          case atStart => exact ⟨0, Nat.zero_le _, rfl, hb7⟩
          case round =>
            obtain ⟨k, hk, rfl, hbw⟩ := hrel
            by_cases hlt : k < TB.size
            · obtain ⟨g1, g2⟩ := hline.out (TB[k]'hlt) (by have := Lib.data_getElem? TB k hlt; exact List.mem_of_getElem? this)
              have t1 : decide (((TB[k]'hlt).toNat : Int) < 32) = false := by simp; omega
              have t2 : (((TB[k]'hlt).toNat : Int) == 127) = false := by rw [beq_eq_false_iff_ne]; omega
              clear C5 C6 C7 C8 C9 C10 C11 C12 C3 C4 L0
              go_wp2_with fail
              exact ⟨⟨k + 1, by omega, by go_num, hbw⟩, by simp [intOf]; omega⟩
            · go_wp2_with (first
                | (go_at_call 13; refine (C8 _ hbw).out.mono ?_; rintro e w8 ⟨rfl, hb8'⟩; have hb8 := below_via hbw hb8')
                | (go_at_call 15; first
                    | ((with_reducible refine (C9 _ hb8).out.mono ?_); rintro e w9 ⟨rfl, hb9'⟩; have hb9 := below_via hb8 hb9')
                    | ((with_reducible refine (C10 _ hb9).out.mono ?_); rintro e w10 ⟨rfl, hb10'⟩; have hb10 := below_via hb9 hb10')
                    | ((with_reducible refine (C9 _ hb10).out.mono ?_); rintro e w11 ⟨rfl, hb11'⟩; have hb11 := below_via hb10 hb11'))
                | (go_at_call 23; refine (C6 _ hb11).out.mono ?_; rintro e w12 ⟨rfl, hb12'⟩; have hb12 := below_via hb11 hb12')
                | (go_at_call 17; refine (C11 _ hb12).out.mono ?_; rintro e w13 ⟨rfl, hb13'⟩; have hb13 := below_via hb12 hb13'))
              refine (C12 _ hb13).out.mono ?_
              rintro e w14 ⟨g, n, hn, rfl, hg, hoc, hb14'⟩
              subst hn
              have hb14 := below_via hb13 hb14'
              have C14 := Lib.hid (begins16 w14 (some ⟨g, 0, none⟩) a L.length ca L l (ownC_sts hoc) (ha.up hb14) hLl (Nat.le_refl _))
              rw [hLd.out] at C14
              clear hoc
              go_wp2_with (first
                | (go_at_call 17; (with_reducible refine C14.out.mono ?_); rintro e w15 ⟨rfl, hb15'⟩; have hb15 := below_via hb14 hb15')
                | (go_at_call 11; refine (L0 _ hb15).out.mono ?_; rintro e w16 ⟨rfl, hb16⟩))
              go_ret
              exact ⟨rfl, below_via hb15 hb16⟩
        · have hmm' : mayL m = false := by simpa using hmm
          rw [hmm'] at C4
          clear hml hmm hmm'
          go_wp2_with (first
            | (go_at_call 21; first
                | ((with_reducible refine (C3 _ hb2).out.mono ?_); rintro e w3 ⟨rfl, hb3'⟩; have hb3 := below_via hb2 hb3')
                | ((with_reducible refine (C4 _ hb3).out.mono ?_); rintro e w4 ⟨rfl, hb4'⟩; have hb4 := below_via hb3 hb4'))
            | (go_at_call 11; refine (L0 _ hb4).out.mono ?_; rintro e w5 ⟨rfl, hb5⟩))
          go_ret
          exact ⟨rfl, below_via hb4 hb5⟩
      · have hml' : mayL l = false := by simpa using hml
        rw [hml'] at C3
        clear hml hml'
        go_wp2_with (first
          | (go_at_call 21; refine (C3 _ hb2).out.mono ?_; rintro e w3 ⟨rfl, hb3'⟩; have hb3 := below_via hb2 hb3')
          | (go_at_call 11; refine (L0 _ hb3).out.mono ?_; rintro e w4 ⟨rfl, hb4⟩))
        go_ret
        exact ⟨rfl, below_via hb3 hb4⟩
    · go_wp2_with (go_at_call 11; refine (L0 _ hb2).out.mono ?_; rintro e w3 ⟨rfl, hb3⟩)
      go_ret
      exact ⟨rfl, below_via hb2 hb3⟩
  · go_wp2_with (go_at_call 11; refine (L0 _ hb1).out.mono ?_; rintro e w2 ⟨rfl, hb2⟩)
    go_ret
    exact ⟨rfl, below_via hb1 hb2⟩
end Go.Proofs.YtdapimjhjnbfdaaDoor
