/-
  The reference's Parse computes refParse. Conditions: a text of bounded length.
-/
import Derived.Test.YtdapimjhjnbfdaaDoorQ6
import Derived.Test.YtdapimjhjnbfdaaDoorR7
namespace Go.Proofs.YtdapimjhjnbfdaaDoor
open Go.RowKit

theorem rshow_rest : ∀ (n : Nat) (l o t : List UInt8), l.length ≤ n → rshow l = some (o, t) → ∃ pre, l = pre ++ t ∧ o.length ≤ pre.length
  | n, [], o, t, _, h => by
    have : o = [] ∧ t = [] := by
      rw [rshow] at h
      simpa [eq_comm] using h
    obtain ⟨rfl, rfl⟩ := this
    exact ⟨[], rfl, Nat.le_refl _⟩
  | 0, c :: r, o, t, hn, _ => by simp at hn
  | n + 1, c :: r, o, t, hn, h => by
    rw [rshow.eq_def] at h
    simp only at h
    split at h
    · injection h with h
      injection h with h1 h2
      subst h1; subst h2
      exact ⟨[], rfl, Nat.le_refl _⟩
    · split at h
      · cases hr : rshow r with
        | none => rw [hr] at h; cases h
        | some p =>
          rw [hr] at h
          simp only [Option.map_some, Option.some.injEq, Prod.mk.injEq] at h
          obtain ⟨h1, h2⟩ := h
          obtain ⟨pre, hp, hl⟩ := rshow_rest n r p.1 p.2 (by simpa using hn) (by rw [hr])
          exact ⟨c :: pre, by rw [hp, ← h2]; rfl, by rw [← h1]; simpa using hl⟩
      · split at h
        · rename_i x y r'
          split at h
          · cases h
          · cases hr : rshow r' with
            | none => rw [hr] at h; cases h
            | some p =>
              rw [hr] at h
              simp only [Option.map_some, Option.some.injEq, Prod.mk.injEq] at h
              obtain ⟨h1, h2⟩ := h
              obtain ⟨pre, hp, hl⟩ := rshow_rest n r' p.1 p.2 (by simp at hn; omega) (by rw [hr])
              exact ⟨c :: x :: y :: pre, by rw [hp, ← h2]; rfl, by rw [← h1]; simp; omega⟩
        · cases h
theorem rshow_at {s : ByteArray} {k : Nat} {o t : List UInt8} (hk : k ≤ s.size) (h : rshow (s.data.toList.drop k) = some (o, t)) :
    k + o.length ≤ s.size - t.length ∧ t.length ≤ s.size ∧ s.data.toList.drop (s.size - t.length) = t := by
  obtain ⟨pre, hp, hl⟩ := rshow_rest _ _ _ _ (Nat.le_refl _) h
  have hlen := congrArg List.length hp
  simp only [List.length_drop, List.length_append] at hlen
  have hs : s.data.toList.length = s.size := by simp
  rw [hs] at hlen
  refine ⟨by omega, by omega, ?_⟩
  have hk2 : s.size - t.length = k + pre.length := by omega
  rw [hk2, ← List.drop_drop, hp]
  simp

theorem at_drop {s : ByteArray} {J : Nat} {e : UInt8} {u : List UInt8} (h : s.data.toList.drop J = e :: u) : ∃ hJ : J < s.size, s[J]'hJ = e ∧ s.data.toList.drop (J + 1) = u := by
  have hJ : J < s.size := by
    have := congrArg List.length h
    simp at this; omega
  refine ⟨hJ, ?_⟩
  rw [drop_cons_ba s J hJ] at h
  injection h with h1 h2
  exact ⟨h1, h2⟩
theorem at_end {s : ByteArray} {J : Nat} (hJ : J ≤ s.size) (h : s.data.toList.drop J = []) : J = s.size := by
  have := congrArg List.length h
  simp at this; omega
theorem app_id {w : World} {base : Nat} {v : Value} {xs : List St} (hown : OwnSt w base v xs) (b c : List UInt8) (hn : xs.length < 16777216) (hbase : base ≤ w.heap.size) :
    ∃ g cap w', (∀ ty, (Builtin.append_ #[22, 22] ty #[v, .slice (some ⟨w.heap.size, 0, none⟩) 1 1]).run Tryd.prog (w.alloc (.cells #[.int .u8 2, .string ⟨b.toArray⟩, .string ⟨c.toArray⟩, .int .i64 0] 25)) = .ok (.slice (some ⟨g, 0, none⟩) (xs ++ [St.id_ b c]).length cap) w') ∧
      OwnSt w' base (.slice (some ⟨g, 0, none⟩) (xs ++ [St.id_ b c]).length cap) (xs ++ [St.id_ b c]) ∧ (w.alloc (.cells #[.int .u8 2, .string ⟨b.toArray⟩, .string ⟨c.toArray⟩, .int .i64 0] 25)).grownBy w' v.ownBlock ∧ (xs ++ [St.id_ b c]).length ≤ cap :=
  app_key hown (St.id_ b c) hn hbase
theorem app_num {w : World} {base : Nat} {v : Value} {xs : List St} (hown : OwnSt w base v xs) (n : Int) (hn : xs.length < 16777216) (hbase : base ≤ w.heap.size) :
    ∃ g cap w', (∀ ty, (Builtin.append_ #[22, 22] ty #[v, .slice (some ⟨w.heap.size, 0, none⟩) 1 1]).run Tryd.prog (w.alloc (.cells #[.int .u8 1, .string ⟨#[]⟩, .string ⟨#[]⟩, .int .i64 n] 25)) = .ok (.slice (some ⟨g, 0, none⟩) (xs ++ [St.num n]).length cap) w') ∧
      OwnSt w' base (.slice (some ⟨g, 0, none⟩) (xs ++ [St.num n]).length cap) (xs ++ [St.num n]) ∧ (w.alloc (.cells #[.int .u8 1, .string ⟨#[]⟩, .string ⟨#[]⟩, .int .i64 n] 25)).grownBy w' v.ownBlock ∧ (xs ++ [St.num n]).length ≤ cap :=
  app_key hown (St.num n) hn hbase

def rtail (o : List UInt8) : List UInt8 → Option (St × List UInt8)
  | [] => none
  | d :: t' => if d = 61 then match rshow t' with
      | none => none
      | some (i, t2) => closing (St.id_ o i) t2
    else match rnum o 0 with
      | none => none
      | some n => closing (St.num n) (d :: t')
theorem rstep_91 {c : UInt8} {r o t : List UInt8} (h91 : c = 91) (hr : rshow r = some (o, t)) : rstep (c :: r) = rtail o t := by
  subst h91
  rw [rstep, if_neg (by simp), hr]
  simp only
  rw [if_neg (by decide)]
  cases t <;> rfl

theorem own_ne {w : World} {base e size n : Nat} {v : Value} {xs : List Value} (h : w.ownsRow base e size v n xs) : v.ownBlock ≠ some w.heap.size := fun e => by have := (h.lt _ e).2; omega

theorem box4_set3 {W : World} {g : Nat} {a b c d u : Value} {t : TypeId} (h : W.heap[g]? = some (.cells #[a, b, c, d] t (0, 0))) : (W.setCell ⟨g, 3, none⟩ u).heap[g]? = some (.cells #[a, b, c, u] t (0, 0)) := by
  have hlt := lt_of_block h
  have h' : W.heap[g] = .cells #[a, b, c, d] t (0, 0) := by simpa [Array.getElem?_eq_getElem hlt] using h
  show (W.heap.modify g _)[g]? = _
  rw [Array.getElem?_eq_getElem (by simpa using hlt), Array.getElem_modify_self, h']
  rfl

def RParsePost (l : List UInt8) (w : World) (e : Ending) (w' : World) : Prop :=
  Below w.heap.size w w' ∧ ((refParse l = none ∧ e = .returned (.tuple #[.slice none 0 0, .bool false])) ∨
    ∃ (p : List St) (a : Option Addr) (cap : Nat), refParse l = some p ∧ e = .returned (.tuple #[.slice a p.length cap, .bool true]) ∧ Sts w' w.heap.size w'.heap.size a p)

def Small (n : Nat) (l : List St) : Prop := (∀ x ∈ l, x.t.size ≤ n ∧ x.i.size ≤ n ∧ 0 ≤ x.k ∧ x.k ≤ 255 ∧ 0 ≤ x.a ∧ x.a ≤ 9223372036854775807) ∧ total l ≤ n ∧ l.length ≤ n
theorem Small.fit {n : Nat} {l : List St} (h : Small n l) (hn : n ≤ 1048576) : Fit2 l ∧ total l ≤ 1048576 ∧ ∀ s ∈ l, 0 ≤ s.k :=
  ⟨⟨⟨Nat.le_trans h.2.2 hn, fun s hs => by obtain ⟨h1, h2, h3, h4, _⟩ := h.1 s hs; exact ⟨by omega, by omega, h3, h4⟩⟩, fun s hs => by obtain ⟨_, _, _, _, h5, h6⟩ := h.1 s hs; exact ⟨by omega, h6⟩⟩, Nat.le_trans h.2.1 hn, fun s hs => (h.1 s hs).2.2.1⟩
theorem Small.snoc {n m : Nat} {l : List St} {x : St} (h : Small n l) (hx : n + x.t.size + x.i.size < m) (hk : 0 ≤ x.k ∧ x.k ≤ 255) (ha : 0 ≤ x.a ∧ x.a ≤ 9223372036854775807) : Small m (l ++ [x]) := by
  obtain ⟨h1, h2, h3⟩ := h
  refine ⟨fun y hy => ?_, ?_, ?_⟩
  · rcases List.mem_append.1 hy with hy | hy
    · obtain ⟨g1, g2, g3⟩ := h1 y hy; exact ⟨by omega, by omega, g3⟩
    · simp at hy; subst hy; exact ⟨by omega, by omega, hk.1, hk.2, ha⟩
  · have : total (l ++ [x]) = total l + (x.t.size + x.i.size) := by simp [total, List.sum_append]
    omega
  · simp; omega

theorem refshow_at (s : ByteArray) (k : Nat) (hk : k + 1 ≤ s.size) (hs : s.size ≤ 1048576) (W : World) :
    Calls Tryd.prog 53 #[.string s, .int .i64 ((k : Int) + 1)] W (Ret (rshowV s.size (rshow (s.data.toList.drop (k + 1)))) W) := refshow_c W s (k + 1) hk hs

set_option maxRecDepth 100000 in
set_option maxHeartbeats 3200000 in
theorem refparse_c (w : World) (s : ByteArray) (hs : s.size ≤ 1048576) :
    Calls Tryd.prog 20 #[.string s] w (RParsePost s.data.toList w) := by
  by_cases hdot : s.data.toList = [46]
  · have hv := Lib.hid (show refParse s.data.toList = some [] by unfold refParse; rw [if_pos hdot])
    have hsd : (s.toList == [46]) = true := by rw [ByteArray.toList_eq, hdot]; rfl
    clear hdot
    go_enter Tryd.func20, Tryd.ntmps20
    go_wp2_with fail
    go_ret2
    exact ⟨Below.refl _ _, .inr ⟨[], none, 0, hv.out, rfl, SlE.nil⟩⟩
  · have hsd : (s.toList == [46]) = false := by rw [ByteArray.toList_eq]; simpa using hdot
    have hv := Lib.hid (show refParse s.data.toList = match iter rstep s.size s.data.toList with
      | none => none
      | some out => if out.length = 0 ∨ textL out ≠ s.data.toList then none else some out by
        unfold refParse
        rw [if_neg hdot, show s.data.toList.length = s.size by simp]
        rfl)
    clear hdot
    go_enter Tryd.func20, Tryd.ntmps20
    go_wp2_with fail
    go_loopw [4, 5] (fun o i wr => ∃ (k : Nat) (outs : List St) (a : Option Addr) (cap m : Nat), o = .slice a outs.length cap ∧ i = .int .i64 k ∧ k ≤ s.size ∧ OwnSt wr w.heap.size (.slice a outs.length cap) outs ∧ Below w.heap.size w wr ∧ Small k outs ∧ s.size ≤ k + m ∧
      Hid (iter rstep s.size s.data.toList = (iter rstep m (s.data.toList.drop k)).map (outs ++ ·))) (fun _ i _ => s.size - (intOf i).toNat)
    case atStart => exact ⟨0, [], none, 0, s.size, rfl, rfl, Nat.zero_le _, own_none _ _ _ _, Below.refl _ _, ⟨by simp, by simp [total], Nat.le_refl _⟩, by omega, Lib.hid (by simp)⟩
    case round =>
      obtain ⟨k, outs, a, cap, m, rfl, rfl, hk, hown, hbw, hsm, hkm, hit⟩ := hrel
      have hsz := hbw.size
      by_cases hlt : k < s.size
      · obtain ⟨m', rfl⟩ : ∃ m', m = m' + 1 := ⟨m - 1, by omega⟩
        have hD := drop_cons_ba s k hlt
        have hc256 := s[k].toNat_lt
        by_cases h47 : s[k] = 47
        · have d1 : ((s[k].toNat : Int) != 47) = false := by rw [h47]; rfl
          have d2 : ((s[k].toNat : Int) == 91) = false := by rw [h47]; rfl
          have HS := fun W => Lib.hid (refshow_at s k (by omega) hs W)
          cases hr : rshow (s.data.toList.drop (k + 1)) with
          | none =>
            rw [hr] at HS
            have hfin := Lib.hid (show refParse s.data.toList = none by
              rw [hv.out, hit.out, hD, iter_none (by rw [rstep, if_neg (by simp [h47]), hr])]
              rfl)
            clear h47 hD hr
            simp only [rshowV] at HS
            go_wp2_with (go_at_call 53; refine (HS _).out.mono ?_; rintro e w2 ⟨rfl, hb2⟩)
            go_ret2
            exact ⟨below_via hbw hb2, .inl ⟨hfin.out, rfl⟩⟩
          | some p =>
            obtain ⟨o, t⟩ := p
            rw [hr] at HS
            obtain ⟨r1, r2, r3⟩ := rshow_at (by omega) hr
            have hst := Lib.hid (show iter rstep (m' + 1) (s.data.toList.drop k) = (iter rstep m' t).map (St.key o :: ·) by
              rw [hD, iter_step (t := t) (x := St.key o) (by rw [rstep, if_neg (by simp [h47]), hr]; simp [h47])])
            simp only [rshowV] at HS
            have r4 : s.size - t.length ≤ s.size := Nat.sub_le _ _
            generalize s.size - t.length = K at *
            have r3 := Lib.hid r3
            clear h47 hD hr
            go_wp2_with (first
              | (go_at_call 53; refine (HS _).out.mono ?_; rintro e w2 ⟨rfl, hb2⟩
                 have hown2 := own_below hown hb2
                 have hbC := below_via hbw hb2
                 have hsz2 := hbC.size)
              | (at_builtin
                 obtain ⟨g, cap2, w5, hrun, hown5, hg5, hc5⟩ := app_lit hown2 o (by have := hsm.2.2; omega) hsz2
                 refine wl_append (s := .tmp 48) (x := .tmp 51) rfl rfl (hrun _) ?_
                 clear hrun))
            refine ⟨⟨K, outs ++ [St.key o], some ⟨g, 0, none⟩, cap2, m', by simp, rfl, by omega, hown5, (hbC.alloc hsz2 _).grown hg5 (by simp; omega) (fun k hk => (hown2.lt k hk).1), hsm.snoc (by show k + o.length + 0 < K; omega) ⟨Int.le_refl _, by simp [St.key]⟩ ⟨Int.le_refl _, by simp [St.key]⟩, by omega, Lib.hid ?_⟩, by simp [intOf]; omega⟩
            rw [hit.out, hst.out, r3.out]
            simp [Function.comp_def]
        · by_cases h91 : s[k] = 91
          · have d1 : ((s[k].toNat : Int) != 47) = true := by rw [h91]; rfl
            have d1' : ((s[k].toNat : Int) != 91) = false := by rw [h91]; rfl
            have d2 : ((s[k].toNat : Int) == 91) = true := by rw [h91]; rfl
            have HS := fun W => Lib.hid (refshow_at s k (by omega) hs W)
            cases hr : rshow (s.data.toList.drop (k + 1)) with
            | none =>
              rw [hr] at HS
              have hfin := Lib.hid (show refParse s.data.toList = none by
                rw [hv.out, hit.out, hD, iter_none (by rw [rstep, if_neg (by simp [h91]), hr])]
                rfl)
              clear h47 h91 hD hr
              simp only [rshowV] at HS
              go_wp2_with (go_at_call 53; refine (HS _).out.mono ?_; rintro e w2 ⟨rfl, hb2⟩)
              go_ret2
              exact ⟨below_via hbw hb2, .inl ⟨hfin.out, rfl⟩⟩
            | some p =>
              obtain ⟨o, t⟩ := p
              rw [hr] at HS
              obtain ⟨r1, r2, r3⟩ := rshow_at (by omega) hr
              have r4 : s.size - t.length ≤ s.size := Nat.sub_le _ _
              have hst := Lib.hid (show rstep (s.data.toList.drop k) = rtail o t by rw [hD, rstep_91 h91 hr])
              simp only [rshowV] at HS
              generalize s.size - t.length = K at *
              have hol : o.length ≤ 1048576 := by omega
              have hDD := Lib.hid hD
              clear h47 h91 hD hr
              have hno : rstep (s.data.toList.drop k) = none → refParse s.data.toList = none := fun h => by
                rw [hv.out, hit.out, hDD.out, iter_none (by rw [← hDD.out]; exact h)]
                rfl
              have hno := Lib.hid hno
              cases t with
              | nil =>
                have hKe := at_end r4 r3
                have e1 : ((K : Int) == (s.size : Int)) = true := by rw [hKe]; simp
                have hfin := Lib.hid (hno.out (by rw [hst.out]; rfl))
                clear r3 hKe
                go_wp2_with (go_at_call 53; refine (HS _).out.mono ?_; rintro e w2 ⟨rfl, hb2⟩)
                go_ret2
                exact ⟨below_via hbw hb2, .inl ⟨hfin.out, rfl⟩⟩
              | cons d t' =>
                obtain ⟨hK, hd, ht'⟩ := at_drop r3
                have e1 : ((K : Int) == (s.size : Int)) = false := by rw [beq_eq_false_iff_ne]; omega
                have hxb : ∀ (W : World) o, W.heap.size < (W.alloc o).heap.size := fun W o => by simp
                by_cases h61 : d = 61
                · have d3 : (((s[K]'hK).toNat : Int) == 61) = true := by rw [hd, h61]; rfl
                  have HS2 := fun W => Lib.hid (refshow_at s K (by omega) hs W)
                  rw [ht'] at HS2
                  have hrt := Lib.hid (show rstep (s.data.toList.drop k) = match rshow t' with
                      | none => none
                      | some (i, t2) => closing (St.id_ o i) t2 by rw [hst.out, rtail, if_pos h61])
                  cases hr2 : rshow t' with
                  | none =>
                    rw [hr2] at HS2
                    have hfin := Lib.hid (hno.out (by rw [hrt.out, hr2]))
                    simp only [rshowV] at HS2
                    clear h61 hd r3 ht' hr2
                    go_wp2_with (go_at_call 53; first
                      | ((with_reducible refine (HS _).out.mono ?_); rintro e w2 ⟨rfl, hb2⟩; have hbC := below_via hbw hb2; have hsz2 := hbC.size)
                      | ((with_reducible refine (HS2 _).out.mono ?_); rintro e w3 ⟨rfl, hb3⟩; have hbE := below_via (hbC.alloc hsz2 _) hb3))
                    go_ret2
                    exact ⟨hbE, .inl ⟨hfin.out, rfl⟩⟩
                  | some p =>
                    obtain ⟨i2, t2⟩ := p
                    rw [hr2] at HS2
                    rw [← ht'] at hr2
                    obtain ⟨q1, q2, q3⟩ := rshow_at (by omega) hr2
                    rw [ht'] at hr2
                    have q4 : s.size - t2.length ≤ s.size := Nat.sub_le _ _
                    have hrt2 := Lib.hid (show rstep (s.data.toList.drop k) = closing (St.id_ o i2) t2 by rw [hrt.out, hr2])
                    simp only [rshowV] at HS2
                    generalize s.size - t2.length = J at *
                    clear h61 hd r3 ht' hr2
                    cases t2 with
                    | nil =>
                      have hJe := at_end q4 q3
                      have e2 : ((J : Int) == (s.size : Int)) = true := by rw [hJe]; simp
                      have hfin := Lib.hid (hno.out (by rw [hrt2.out]; rfl))
                      clear q3 hJe
                      go_wp2_with (go_at_call 53; first
                        | ((with_reducible refine (HS _).out.mono ?_); rintro e w2 ⟨rfl, hb2⟩; have hbC := below_via hbw hb2; have hsz2 := hbC.size)
                        | ((with_reducible refine (HS2 _).out.mono ?_); rintro e w3 ⟨rfl, hb3⟩; have hbE := below_via (hbC.alloc hsz2 _) hb3
                           have hblk := blk_step (heap_alloc_new w2 _) hb3
                           obtain ⟨k0, k1, k2, k3, f0, f1, f2, f3⟩ := box4 hblk
                           have hz3 := lt_of_block hblk))
                      go_ret2
                      exact ⟨(by repeat (first | exact hbE | refine Below.setCell ?_ (by first | omega | (simp; omega)) _)), .inl ⟨hfin.out, rfl⟩⟩
                    | cons e u =>
                      obtain ⟨hJ, he, hu⟩ := at_drop q3
                      have e2 : ((J : Int) == (s.size : Int)) = false := by rw [beq_eq_false_iff_ne]; omega
                      by_cases h93 : e = 93
                      · have d4 : (((s[J]'hJ).toNat : Int) != 93) = false := by rw [he, h93]; rfl
                        have hfin := Lib.hid (show iter rstep (m' + 1) (s.data.toList.drop k) = (iter rstep m' (s.data.toList.drop (J + 1))).map (St.id_ o i2 :: ·) by
                          rw [hDD.out, iter_step (t := u) (x := St.id_ o i2) (by rw [← hDD.out, hrt2.out, closing, if_pos h93]), hu])
                        clear h93 he hu q3
                        go_wp2_with (first
                          | (go_at_call 53; first
                              | ((with_reducible refine (HS _).out.mono ?_); rintro e w2 ⟨rfl, hb2⟩; have hbC := below_via hbw hb2; have hsz2 := hbC.size
                                 have hown2 := own_below hown hb2
                                 have hne := own_ne hown2)
                              | ((with_reducible refine (HS2 _).out.mono ?_); rintro e w3 ⟨rfl, hb3⟩; have hbE := below_via (hbC.alloc hsz2 _) hb3
                                 have hblk := blk_step (heap_alloc_new w2 _) hb3
                                 obtain ⟨k0, k1, k2, k3, f0, f1, f2, f3⟩ := box4 hblk
                                 have hz3 := lt_of_block hblk
                                 have hown3 := own_below (hown2.alloc _) hb3))
                          | (at_builtin
                             have hown4 := ownsRow_setCell_other (ownsRow_setCell_other (ownsRow_setCell_other (ownsRow_setCell_other hown3 (a := ⟨w2.heap.size, 0, none⟩) hne (.int .u8 2)) (a := ⟨w2.heap.size, 1, none⟩) hne (.string ⟨o.toArray⟩)) (a := ⟨w2.heap.size, 2, none⟩) hne (.string ⟨i2.toArray⟩)) (a := ⟨w2.heap.size, 3, none⟩) hne (.int .i64 0)
                             have hbF := (((hbE.setCell (p := ⟨w2.heap.size, 0, none⟩) hsz2 (.int .u8 2)).setCell (p := ⟨w2.heap.size, 1, none⟩) hsz2 (.string ⟨o.toArray⟩)).setCell (p := ⟨w2.heap.size, 2, none⟩) hsz2 (.string ⟨i2.toArray⟩)).setCell (p := ⟨w2.heap.size, 3, none⟩) hsz2 (.int .i64 0)
                             obtain ⟨g, cap2, w5, hrun, hown5, hg5, hc5⟩ := app_id hown4 o i2 (by have := hsm.2.2; omega) (by simp; omega)
                             simp only [World.size_setCell] at hrun
                             refine wl_append (s := .tmp 126) (x := .tmp 128) rfl rfl (hrun _) ?_
                             clear hrun))
                        refine ⟨⟨J + 1, outs ++ [St.id_ o i2], some ⟨g, 0, none⟩, cap2, m', by simp, by go_num, by omega, hown5, (hbF.alloc (by simp; omega) _).grown hg5 (by simp; omega) (fun k hk => (hown4.lt k hk).1), hsm.snoc (by show k + o.length + i2.length < J + 1; omega) ⟨by simp [St.id_], by simp [St.id_]⟩ ⟨by simp [St.id_], by simp [St.id_]⟩, by omega, Lib.hid ?_⟩, by simp [intOf]; omega⟩
                        rw [hit.out, hfin.out]
                        simp [Function.comp_def]
                      · have d4 : (((s[J]'hJ).toNat : Int) != 93) = true := by
                          rw [bne_iff_ne]; intro h; apply h93; rw [← he]; apply UInt8.toNat_inj.1; simp; omega
                        have hfin := Lib.hid (hno.out (by rw [hrt2.out, closing, if_neg h93]))
                        clear h93 he hu q3
                        go_wp2_with (go_at_call 53; first
                          | ((with_reducible refine (HS _).out.mono ?_); rintro e w2 ⟨rfl, hb2⟩; have hbC := below_via hbw hb2; have hsz2 := hbC.size)
                          | ((with_reducible refine (HS2 _).out.mono ?_); rintro e w3 ⟨rfl, hb3⟩; have hbE := below_via (hbC.alloc hsz2 _) hb3
                             have hblk := blk_step (heap_alloc_new w2 _) hb3
                             obtain ⟨k0, k1, k2, k3, f0, f1, f2, f3⟩ := box4 hblk
                             have hz3 := lt_of_block hblk))
                        go_ret2
                        exact ⟨(by repeat (first | exact hbE | refine Below.setCell ?_ (by first | omega | (simp; omega)) _)), .inl ⟨hfin.out, rfl⟩⟩
                · have d3 : (((s[K]'hK).toNat : Int) == 61) = false := by rw [hd]; rw [beq_eq_false_iff_ne]; intro h; apply h61; apply UInt8.toNat_inj.1; simp; omega
                  have hrt := Lib.hid (show rstep (s.data.toList.drop k) = match rnum o 0 with
                      | none => none
                      | some n => closing (St.num n) (d :: t') by rw [hst.out, rtail, if_neg h61])
                  obtain ⟨OB, hOB⟩ : ∃ OB : ByteArray, ⟨o.toArray⟩ = OB := ⟨_, rfl⟩
                  have hOBl : OB.data.toList = o := by rw [← hOB]
                  have hOBs1 : OB.size ≤ o.length := by rw [← hOB]; exact Nat.le_refl _
                  simp only [hOB] at HS
                  have hd' := Lib.hid hd
                  have HT' := Lib.hid ht'
                  clear h61 hd r3 ht' hOB
                  obtain ⟨wo, rfl⟩ : ∃ wo : World, wo = wr := ⟨_, rfl⟩
                  go_wp2_with (go_at_call 53; (with_reducible refine (HS _).out.mono ?_); rintro e w2 ⟨rfl, hb2⟩; have hbC := below_via hbw hb2; have hsz2 := hbC.size; have hown2 := own_below hown hb2; have hne := own_ne hown2)
                  go_loopw [14] (fun j wx => ∃ (q : Nat) (n : Int), j = .int .i64 q ∧ q ≤ OB.size ∧ 0 ≤ n ∧ n ≤ 9223372036854775807 ∧ wx.heap[w2.heap.size]? = some (.cells #[.int .u8 1, .string ⟨#[]⟩, .string ⟨#[]⟩, .int .i64 n] 25 (0, 0)) ∧ Below w2.heap.size w2 wx ∧ Hid (rnum o 0 = rnum (o.drop q) n)) (fun j _ => OB.size - (intOf j).toNat)
                  case atStart => exact ⟨0, 0, rfl, Nat.zero_le _, Int.le_refl _, by decide, heap_alloc_new w2 _, (Below.refl _ _).alloc (Nat.le_refl _) _, Lib.hid rfl⟩
                  case round =>
                    obtain ⟨q, n, rfl, hq, hn0, hn1, hblk, hbx, hnum⟩ := hrel
                    obtain ⟨k0, k1, k2, k3, f0, f1, f2, f3⟩ := box4 hblk
                    have hz3 := lt_of_block hblk
                    have hbF := hbC.trans (hbx.mono hsz2)
                    have hown3 : OwnSt wr w.heap.size (.slice a outs.length cap) outs := hown2.kept (row := none) ⟨hbx.os, hbx.tape, hbx.output, hbx.size, fun k hk _ => hbx.block k hk⟩ (by cases h : (Value.slice a outs.length cap).ownBlock; exact .inl rfl; exact .inr (by simp))
                    by_cases hql : q < OB.size
                    · have hDq := drop_cons_ba OB q hql
                      rw [hOBl] at hDq
                      have hc2 := (OB[q]'hql).toNat_lt
                      by_cases hbad : OB[q].toNat < 48 ∨ 57 < OB[q].toNat ∨ (9223372036854775807 - ((OB[q].toNat : Int) - 48)) / 10 < n
                      · have hfin := Lib.hid (hno.out (by rw [hrt.out, hnum.out, hDq, rnum, if_pos hbad]))
                        clear hDq
                        by_cases a1 : OB[q].toNat < 48
                        · have t1 : decide ((OB[q].toNat : Int) < 48) = true := by simp; omega
                          clear a1 hbad
                          go_wp2_with fail
                          go_quiet (fail)
                          go_wp2_with fail
                          go_ret2
                          exact ⟨below_drewN hbF _, .inl ⟨hfin.out, rfl⟩⟩
                        · have t1 : decide ((OB[q].toNat : Int) < 48) = false := by simp; omega
                          by_cases a2 : 57 < OB[q].toNat
                          · have t2 : decide ((57 : Int) < (OB[q].toNat : Int)) = true := by simp; omega
                            clear a1 a2 hbad
                            go_wp2_with fail
                            go_quiet (fail)
                            go_wp2_with fail
                            go_ret2
                            exact ⟨below_drewN hbF _, .inl ⟨hfin.out, rfl⟩⟩
                          · have t2 : decide ((57 : Int) < (OB[q].toNat : Int)) = false := by simp; omega
                            have a3 : (9223372036854775807 - ((OB[q].toNat : Int) - 48)) / 10 < n := by omega
                            have t3 : decide ((9223372036854775807 - ((OB[q].toNat : Int) - 48)) / 10 < n) = true := by simpa using a3
                            have e1 : IntKind.u8.wrap ((OB[q].toNat : Int) - 48) = (OB[q].toNat : Int) - 48 := IntWalk.u8_in _ (by omega)
                            have e2 : IntKind.i64.wrap ((OB[q].toNat : Int) - 48) = (OB[q].toNat : Int) - 48 := IntWalk.i64_in _ (by omega)
                            have e3 : IntKind.i64.wrap (9223372036854775807 - ((OB[q].toNat : Int) - 48)) = 9223372036854775807 - ((OB[q].toNat : Int) - 48) := IntWalk.i64_in _ (by omega)
                            have e4 : (9223372036854775807 - ((OB[q].toNat : Int) - 48)).tdiv 10 = (9223372036854775807 - ((OB[q].toNat : Int) - 48)) / 10 := Int.tdiv_eq_ediv_of_nonneg (by omega)
                            have e5 : IntKind.i64.wrap ((9223372036854775807 - ((OB[q].toNat : Int) - 48)) / 10) = (9223372036854775807 - ((OB[q].toNat : Int) - 48)) / 10 := IntWalk.i64_in _ (by omega)
                            clear a1 a2 a3 hbad
                            go_wp2_with fail
                            go_quiet (fail)
                            go_wp2_with fail
                            go_ret2
                            exact ⟨below_drewN hbF _, .inl ⟨hfin.out, rfl⟩⟩
                      · have hnext := Lib.hid (show rnum o 0 = rnum (o.drop (q + 1)) (10 * n + ((OB[q].toNat : Int) - 48)) by rw [hnum.out, hDq, rnum, if_neg hbad])
                        clear hDq
                        have t1 : decide ((OB[q].toNat : Int) < 48) = false := by simp; omega
                        have t2 : decide ((57 : Int) < (OB[q].toNat : Int)) = false := by simp; omega
                        have a3 : ¬ (9223372036854775807 - ((OB[q].toNat : Int) - 48)) / 10 < n := by omega
                        have t3 : decide ((9223372036854775807 - ((OB[q].toNat : Int) - 48)) / 10 < n) = false := by simpa using a3
                        have e1 : IntKind.u8.wrap ((OB[q].toNat : Int) - 48) = (OB[q].toNat : Int) - 48 := IntWalk.u8_in _ (by omega)
                        have e2 : IntKind.i64.wrap ((OB[q].toNat : Int) - 48) = (OB[q].toNat : Int) - 48 := IntWalk.i64_in _ (by omega)
                        have e3 : IntKind.i64.wrap (9223372036854775807 - ((OB[q].toNat : Int) - 48)) = 9223372036854775807 - ((OB[q].toNat : Int) - 48) := IntWalk.i64_in _ (by omega)
                        have e4 : (9223372036854775807 - ((OB[q].toNat : Int) - 48)).tdiv 10 = (9223372036854775807 - ((OB[q].toNat : Int) - 48)) / 10 := Int.tdiv_eq_ediv_of_nonneg (by omega)
                        have e5 : IntKind.i64.wrap ((9223372036854775807 - ((OB[q].toNat : Int) - 48)) / 10) = (9223372036854775807 - ((OB[q].toNat : Int) - 48)) / 10 := IntWalk.i64_in _ (by omega)
                        have m0 : 0 ≤ 10 * n + ((OB[q].toNat : Int) - 48) := by omega
                        have m1 : 10 * n + ((OB[q].toNat : Int) - 48) ≤ 9223372036854775807 := by omega
                        have e6 : IntKind.i64.wrap (10 * n) = 10 * n := IntWalk.i64_in _ (by omega)
                        have e7 : IntKind.i64.wrap (10 * n + ((OB[q].toNat : Int) - 48)) = 10 * n + ((OB[q].toNat : Int) - 48) := IntWalk.i64_in _ (by omega)
                        have M := Lib.hid (And.intro m0 m1)
                        clear a3 hbad m0 m1
                        go_wp2_with fail
                        go_quiet (fail)
                        go_wp2_with fail
                        go_region
                        go_wp2_with fail
                        refine ⟨⟨q + 1, 10 * n + ((OB[q].toNat : Int) - 48), by go_num, by omega, M.out.1, M.out.2, box4_set3 (W := wr.drewN _) hblk, ?_, hnext⟩, by simp [intOf]; omega⟩
                        exact (below_drewN hbx _).setCell (p := ⟨w2.heap.size, 3, none⟩) (Nat.le_refl _) _
                    · have hqe : q = OB.size := by omega
                      have hnum2 := Lib.hid (show rnum o 0 = some n by rw [hnum.out, List.drop_of_length_le (by rw [← hOBl]; simp; omega)]; rfl)
                      by_cases h93 : d = 93
                      · have d4 : (((s[K]'hK).toNat : Int) != 93) = false := by rw [hd'.out, h93]; rfl
                        have hfin := Lib.hid (show iter rstep (m' + 1) (s.data.toList.drop k) = (iter rstep m' (s.data.toList.drop (K + 1))).map (St.num n :: ·) by
                          rw [hDD.out, iter_step (t := t') (x := St.num n) (by rw [← hDD.out, hrt.out, hnum2.out]; simp only [closing]; rw [if_pos h93]), HT'.out])
                        clear h93 hqe
                        go_wp2_with (first
                          | (at_builtin
                             obtain ⟨g, cap2, w5, hrun, hown5, hg5, hc5⟩ := app_num hown3 n (by have := hsm.2.2; omega) hbF.size
                             refine wl_append (s := .tmp 126) (x := .tmp 128) rfl rfl (hrun _) ?_
                             clear hrun))
                        refine ⟨⟨K + 1, outs ++ [St.num n], some ⟨g, 0, none⟩, cap2, m', by simp, by go_num, by omega, hown5, (hbF.alloc hbF.size _).grown hg5 (by simp; have := hbF.size; omega) (fun k hk => (hown3.lt k hk).1), hsm.snoc (by show k + 0 + 0 < K + 1; omega) ⟨by simp [St.num], by simp [St.num]⟩ ⟨hn0, hn1⟩, by omega, Lib.hid ?_⟩, by simp [intOf]; omega⟩
                        rw [hit.out, hfin.out]
                        simp [Function.comp_def]
                      · have d4 : (((s[K]'hK).toNat : Int) != 93) = true := by
                          rw [bne_iff_ne]; intro h; apply h93; rw [← hd'.out]; apply UInt8.toNat_inj.1; simp; omega
                        have hfin := Lib.hid (hno.out (by rw [hrt.out, hnum2.out]; simp only [closing]; rw [if_neg h93]))
                        clear h93 hqe
                        go_wp2_with fail
                        go_ret2
                        exact ⟨hbF, .inl ⟨hfin.out, rfl⟩⟩
          · have hfin := Lib.hid (show refParse s.data.toList = none by
              rw [hv.out, hit.out, hD, iter_none (by rw [rstep, if_pos ⟨h47, h91⟩])]
              rfl)
            have d1 : ((s[k].toNat : Int) != 47) = true := by rw [bne_iff_ne]; intro e; apply h47; apply UInt8.toNat_inj.1; simp; omega
            have d2 : ((s[k].toNat : Int) != 91) = true := by rw [bne_iff_ne]; intro e; apply h91; apply UInt8.toNat_inj.1; simp; omega
            clear h47 h91 hD
            go_wp2_with fail
            go_ret2
            exact ⟨hbw, .inl ⟨hfin.out, rfl⟩⟩
      · have hfit := hsm.fit (by omega)
        have hsl : Sts wr w.heap.size wr.heap.size a outs := own_sl St.enc_len hown
        have HT := Lib.hid (reftext16 wr a cap outs (hsl.widen (Nat.zero_le _) (Nat.le_refl _)) hfit.1 hfit.2.1 hfit.2.2)
        have hfin := Lib.hid (show refParse s.data.toList = if outs.length = 0 ∨ textL outs ≠ s.data.toList then none else some outs by
          have : iter rstep m ([] : List UInt8) = some [] := by cases m <;> rfl
          rw [hv.out, hit.out, List.drop_of_length_le (by simp; omega), this]
          simp)
        have hol : outs.length ≤ 1048576 := by have := hsm.2.2; omega
        have hsl := Lib.hid hsl
        clear hfit
        by_cases h0 : outs.length = 0
        · have e0 : ((outs.length : Int) == 0) = true := by simp [h0]
          have hf2 := Lib.hid (show refParse s.data.toList = none by rw [hfin.out, if_pos (.inl h0)])
          clear h0
          go_wp2_with fail
          go_ret2
          exact ⟨hbw, .inl ⟨hf2.out, rfl⟩⟩
        · have e0 : ((outs.length : Int) == 0) = false := by rw [beq_eq_false_iff_ne]; omega
          have h0' := Lib.hid h0
          clear h0
          go_wp2_with (go_at_call 24; refine HT.out.mono ?_; rintro e w2 ⟨rfl, hb2⟩)
          · have ho : (!textL outs == s.toList) = true := by assumption
            go_ret2
            refine ⟨below_via hbw hb2, .inl ⟨?_, rfl⟩⟩
            rw [hfin.out, if_pos]
            right
            rw [ByteArray.toList_eq] at ho
            simpa using ho
          · have ho : (!textL outs == s.toList) = false := by assumption
            go_ret2
            refine ⟨below_via hbw hb2, .inr ⟨outs, a, cap, ?_, rfl, (hsl.out.below' hb2).clamp⟩⟩
            rw [hfin.out, if_neg]
            rw [ByteArray.toList_eq] at ho
            rintro (h | h)
            · exact h0'.out h
            · apply h; simpa using ho
end Go.Proofs.YtdapimjhjnbfdaaDoor
