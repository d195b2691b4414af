/-
  paths.Parse computes progParse. Conditions: a text of bounded length; the library's variables hold what they are laid to hold.
-/
import Derived.Test.YtdapimjhjnbfdaaDoorR6
import Derived.OneCell
namespace Go.Proofs.YtdapimjhjnbfdaaDoor
open Go.RowKit

def ParsePost (l : List UInt8) (w : World) (e : Ending) (w' : World) : Prop :=
  Below w.heap.size w w' ∧ ((progParse l = none ∧ e = .returned (.tuple #[.slice none 0 0, .bool false])) ∨
    ∃ (p : List St) (a : Option Addr), progParse l = some p ∧ e = .returned (.tuple #[.slice a p.length p.length, .bool true]) ∧ OwnC w' w.heap.size 25 4 a p.length p.length (p.flatMap St.enc))
def strLen (bs : Nat) (w : World) : Nat := match w.cell? ⟨bs, 0, none⟩ with
  | some (.string s) => s.size
  | _ => 0
theorem strLen_of {bs : Nat} {w : World} {s : ByteArray} (h : w.heap[bs]? = some (.cells #[.string s] 9 (0, 0))) : strLen bs w = s.size := by
  unfold strLen; rw [cell_of_one h]
theorem own_none (w : World) (base e size : Nat) : w.ownsRow base e size (.slice none 0 0) 0 [] := World.ownsRow_nil _ _ _ _
theorem emp_true {s : ByteArray} (h : s.data.toList = []) : s.toList.isEmpty = true := by rw [ByteArray.toList_eq, h]; rfl
theorem emp_false {s : ByteArray} (h : s.data.toList ≠ []) : s.toList.isEmpty = false := by
  rw [ByteArray.toList_eq]
  cases hl : s.data.toList with
  | nil => exact absurd hl h
  | cons c r => rfl

theorem own_base {w : World} {base base' e size : Nat} {a : Option Addr} {n cap : Nat} {xs : List Value} (hb : base' ≤ base) (h : OwnC w base e size a n cap xs) : OwnC w base' e size a n cap xs :=
  ⟨h.1, h.2.1, fun hc => by obtain ⟨g, cur, e1, h1, h2⟩ := h.2.2 hc; exact ⟨g, cur, e1, Nat.le_trans hb h1, h2⟩⟩
theorem pred47 : (fun c : UInt8 => !([47, 91] : List UInt8).contains c) = (fun x => x != 47 && x != 91) := by
  funext c
  by_cases h1 : c = 47 <;> by_cases h2 : c = 91 <;> simp [h1, h2]
theorem pred93 : (fun c : UInt8 => !([93] : List UInt8).contains c) = (fun x => x != 93) := by
  funext c
  by_cases h1 : c = 93 <;> simp [h1]
theorem app_key {w : World} {base : Nat} {v : Value} {xs : List St} (hown : OwnSt w base v xs) (x : St) (hn : xs.length < 16777216) (hbase : base ≤ w.heap.size) :
    ∃ g cap w', (∀ ty, (Builtin.append_ #[22, 22] ty #[v, .slice (some ⟨w.heap.size, 0, none⟩) 1 1]).run Tryd.prog (w.alloc (.cells #[.int .u8 x.k, .string x.t, .string x.i, .int .i64 x.a] 25)) = .ok (.slice (some ⟨g, 0, none⟩) (xs ++ [x]).length cap) w') ∧
      OwnSt w' base (.slice (some ⟨g, 0, none⟩) (xs ++ [x]).length cap) (xs ++ [x]) ∧ (w.alloc (.cells #[.int .u8 x.k, .string x.t, .string x.i, .int .i64 x.a] 25)).grownBy w' v.ownBlock ∧ (xs ++ [x]).length ≤ cap := by
  obtain ⟨v2, w5, hrun, hown5, hg5, hat5⟩ := app_st (w := w.alloc (.cells #[.int .u8 x.k, .string x.t, .string x.i, .int .i64 x.a] 25)) (xs := xs) (hown.alloc _) (c := 1) (lit_new w x _) (by simp; omega) (by simp; omega)
  obtain ⟨g, cap, hv, hg0, hglt⟩ := hown5.form (by simp)
  have hc := own_cap hown5 hv
  subst hv
  exact ⟨g, cap, w5, hrun, hown5, hg5, hc⟩

theorem app_lit {w : World} {base : Nat} {v : Value} {xs : List St} (hown : OwnSt w base v xs) (b : List UInt8) (hn : xs.length < 16777216) (hbase : base ≤ w.heap.size) :
    ∃ g cap w', (∀ ty, (Builtin.append_ #[22, 22] ty #[v, .slice (some ⟨w.heap.size, 0, none⟩) 1 1]).run Tryd.prog (w.alloc (.cells #[.int .u8 0, .string ⟨b.toArray⟩, .string ⟨#[]⟩, .int .i64 0] 25)) = .ok (.slice (some ⟨g, 0, none⟩) (xs ++ [St.key b]).length cap) w') ∧
      OwnSt w' base (.slice (some ⟨g, 0, none⟩) (xs ++ [St.key b]).length cap) (xs ++ [St.key b]) ∧ (w.alloc (.cells #[.int .u8 0, .string ⟨b.toArray⟩, .string ⟨#[]⟩, .int .i64 0] 25)).grownBy w' v.ownBlock ∧ (xs ++ [St.key b]).length ≤ cap :=
  app_key hown (St.key b) hn hbase
theorem own_set {w : World} {base e size n : Nat} {v : Value} {xs : List Value} (h : w.ownsRow base e size v n xs) {p : Addr} (hp : p.block < base) (u : Value) : (w.setCell p u).ownsRow base e size v n xs :=
  ownsRow_setCell_other h (fun hh => by have := (h.lt p.block hh).1; omega) u
theorem iter_none {f : List UInt8 → Option (St × List UInt8)} {m : Nat} {c : UInt8} {r : List UInt8} (h : f (c :: r) = none) : iter f (m + 1) (c :: r) = none := by rw [iter, h]
theorem iter_step {f : List UInt8 → Option (St × List UInt8)} {m : Nat} {c : UInt8} {r t : List UInt8} {x : St} (h : f (c :: r) = some (x, t)) : iter f (m + 1) (c :: r) = (iter f m t).map (x :: ·) := by rw [iter, h]
theorem grown_blk {w w' : World} {row : Option Nat} {o : Obj} {bs : Nat} {b : Obj} (hg : (w.alloc o).grownBy w' row) (hb : w.heap[bs]? = some b) (hne : some bs ≠ row) : w'.heap[bs]? = some b :=
  (hg.block bs (by have := lt_of_block hb; simp; omega) hne).trans ((Below.heap_alloc w o bs (lt_of_block hb)).trans hb)

set_option maxRecDepth 100000 in
set_option maxHeartbeats 1600000 in
theorem parse_c (w : World) (s : ByteArray) (hs : s.size ≤ 1048576) (he : Errs w) (hp : Pow w) (hm : MaxL w) :
    Calls Tryd.prog 19 #[.string s] w (ParsePost s.data.toList w) := by
  have hb0 := fun o => (Below.refl w.heap.size w).alloc (Nat.le_refl _) o
  by_cases hdot : s.data.toList = [46]
  · have hv := Lib.hid (show progParse s.data.toList = some [] by unfold progParse; rw [if_pos hdot])
    have hsd : (s.toList == [46]) = true := by rw [ByteArray.toList_eq, hdot]; rfl
    clear hdot
    go_enter Tryd.func19, Tryd.ntmps19
    go_wp2_with fail
    go_ret2
    exact ⟨hb0 _, .inr ⟨[], none, hv.out, rfl, rfl, Nat.le_refl _, fun h => absurd h (by simp)⟩⟩
  · have hsd : (s.toList == [46]) = false := by rw [ByteArray.toList_eq]; simpa using hdot
    have hv := Lib.hid (show progParse s.data.toList = match iter pstep s.size s.data.toList with
      | none => none
      | some out => if out.length = 0 ∨ 512 < out.length then none else some out by
        unfold progParse
        rw [if_neg hdot, show s.data.toList.length = s.size by simp]
        rfl)
    clear hdot
    obtain ⟨bs, hbs⟩ : ∃ bs, bs = w.heap.size := ⟨_, rfl⟩
    go_enter Tryd.func19, Tryd.ntmps19
    go_wp2_with fail
    rw [← hbs]
    go_loopw [5] (fun o wr => ∃ (S : ByteArray) (outs : List St) (a : Option Addr) (cap m : Nat), o = .slice a outs.length cap ∧ wr.heap[bs]? = some (.cells #[.string S] 9 (0, 0)) ∧ OwnSt wr (bs + 1) (.slice a outs.length cap) outs ∧ Below bs w wr ∧ outs.length + S.size ≤ s.size ∧ S.size ≤ m ∧ outs.length ≤ cap ∧
      Hid (iter pstep s.size s.data.toList = (iter pstep m S.data.toList).map (outs ++ ·))) (fun _ wr => strLen bs wr)
    case atStart => exact ⟨s, [], none, 0, s.size, rfl, by rw [hbs]; exact heap_alloc_new w _, own_none _ _ _ _, by rw [hbs]; exact hb0 _, by simp, Nat.le_refl _, Nat.le_refl _, Lib.hid (by simp)⟩
    case round =>
      have HBS := Lib.hid hbs
      clear hbs
      obtain ⟨S, outs, a, cap, m, rfl, hblk, hown, hbw, hlen, hSm, hcap, hit⟩ := hrel
      have c0 := cell_of_one hblk
      have f0 := free_of_one hblk
      have hz := lt_of_block hblk
      by_cases hS : S.data.toList = []
      · have hemp := emp_true hS
        have hfin := Lib.hid (show progParse s.data.toList = if outs.length = 0 ∨ 512 < outs.length then none else some outs by
          have : iter pstep m ([] : List UInt8) = some [] := by cases m <;> rfl
          rw [hv.out, hit.out, hS, this]
          simp)
        have hl : outs.length ≤ 1048576 := by omega
        clear hS
        go_wp2_with (go_at_call 41; refine (clip_st _ _ _ _ hcap).mono ?_; rintro e w1 ⟨rfl, rfl⟩)
        · have ho : outs = [] := by assumption
          go_ret2
          exact ⟨HBS.out ▸ hbw, .inl ⟨by rw [hfin.out, if_pos (.inl (by rw [ho]; rfl))], rfl⟩⟩
        · have ho : ((outs.length : Int) == 0) = true ∨ (512 : Int) < outs.length := by assumption
          go_ret2
          refine ⟨HBS.out ▸ hbw, .inl ⟨?_, rfl⟩⟩
          rw [hfin.out, if_pos]
          rcases ho with ho | ho
          · left; simpa using ho
          · right; omega
        · have ho : ((outs.length : Int) == 0) = false ∧ (outs.length : Int) ≤ 512 := by assumption
          go_ret2
          refine ⟨HBS.out ▸ hbw, .inr ⟨outs, a, ?_, rfl, own_base (by have := HBS.out; omega) (own_clip hown (Nat.le_refl _) hcap)⟩⟩
          rw [hfin.out, if_neg]
          rintro (h | h)
          · have := ho.1; rw [h] at this; cases this
          · omega
      · have hemp := emp_false hS
        obtain ⟨c, r, hcr⟩ : ∃ c r, S.data.toList = c :: r := by
          cases h : S.data.toList with
          | nil => exact absurd h hS
          | cons c r => exact ⟨c, r, rfl⟩
        have hSz : S.size = r.length + 1 := by
          have : S.data.toList.length = S.size := by simp
          rw [← this, hcr]; rfl
        have hS0 : (0 : Int) < S.size := by omega
        have h0 : 0 < S.size := by omega
        have hc0 : S[0]'h0 = c := by
          have := Lib.data_getElem? S 0 h0
          rw [hcr] at this; simpa using this.symm
        obtain ⟨R, hR⟩ : ∃ R : ByteArray, S.extract 1 S.size = R := ⟨_, rfl⟩
        have hRl : R.data.toList = r := by rw [← hR, ex_drop, hcr]; simp
        have hRs : R.size = r.length := by
          have : R.data.toList.length = R.size := by simp
          rw [← this, hRl]
        have hblk2 := one_setCell (u := .string R) hblk
        have hown2 : OwnSt (wr.setCell ⟨bs, 0, none⟩ (.string R)) (bs + 1) (.slice a outs.length cap) outs := ownsRow_setCell_other hown (by
          intro h
          rcases hown.lt bs (by simpa using h) with ⟨h1, _⟩
          omega) _
        have hm2 : ∃ m', m = m' + 1 := ⟨m - 1, by omega⟩
        obtain ⟨m', rfl⟩ := hm2
        have hSz1 : r.length + 1 ≤ S.size := by omega
        have hSz2 : S.size ≤ r.length + 1 := by omega
        have hRs1 : r.length ≤ R.size := by omega
        have hRs2 : R.size ≤ r.length := by omega
        clear hS hSz hRs
        by_cases h47 : c = 47
        · have d1 : (((S[0]'h0).toNat : Int) == 47) = true := by rw [hc0, h47]; rfl
          have HU := fun W h0 => Lib.hid (up_c W bs R sl [47, 91] (by omega) (fun W' => idxany_sl W' R (by omega)) h0)
          have hTD := List.takeWhile_append_dropWhile (p := fun c => !([47, 91] : List UInt8).contains c) (l := r)
          unfold UpPost at HU
          simp only [hRl] at HU
          have hst := Lib.hid (show pstep (c :: r) = (showP (r.takeWhile (fun c => !([47, 91] : List UInt8).contains c))).map fun k => (St.key k, r.dropWhile (fun c => !([47, 91] : List UInt8).contains c)) by rw [pstep, if_pos h47, pred47])
          have hDl : (r.takeWhile (fun c => !([47, 91] : List UInt8).contains c)).length + (r.dropWhile (fun c => !([47, 91] : List UInt8).contains c)).length = r.length := by
            have := congrArg List.length hTD
            rw [List.length_append] at this
            exact this
          generalize hT : r.takeWhile (fun c => !([47, 91] : List UInt8).contains c) = T at *
          generalize hDD : r.dropWhile (fun c => !([47, 91] : List UInt8).contains c) = D at *
          have HS := fun W h => Lib.hid (show_c W ⟨T.toArray⟩ (by show T.length ≤ _; omega) h)
          have HT := Lib.hid hT
          have HD := Lib.hid hDD
          have hcr2 := Lib.hid hcr
          clear hT hDD hTD h47 hc0 hRl hcr
          have hbA : Below bs w (wr.setCell ⟨bs, 0, none⟩ (.string R)) := hbw.setCell (p := ⟨bs, 0, none⟩) (Nat.le_refl _) _
          go_wp2_with (first
            | (go_at_call 49; (with_reducible refine (HU _ hblk2).out.mono ?_); rintro e w1 ⟨rfl, w2, hb2, rfl⟩
               have hblk3 := one_setCell (u := .string ⟨D.toArray⟩) (blk_step hblk2 hb2)
               have hown3 := own_set (own_below hown2 hb2) (p := ⟨bs, 0, none⟩) (Nat.lt_succ_self _) (.string ⟨D.toArray⟩)
               have hbC : Below bs w (w2.setCell ⟨bs, 0, none⟩ (.string ⟨D.toArray⟩)) := (hbA.trans (hb2.mono (by simp; omega))).setCell (p := ⟨bs, 0, none⟩) (Nat.le_refl _) _)
            | (go_at_call 51; (with_reducible refine (HS _ (he.below (by rw [← HBS.out]; exact hbC))).out.mono ?_); rintro e w4 ⟨b1, ok1, rfl, hb4, hn1, hv1⟩
               have hblk4 := blk_step hblk3 hb4
               have hown4 := own_below hown3 hb4
               have hbD : Below bs w w4 := hbC.trans (hb4.mono (Nat.le_of_lt (lt_of_block hblk3)))
               have hv1 := Lib.hid hv1
               have hz4 := lt_of_block hblk4)
            | (at_builtin
               obtain ⟨g, cap2, w5, hrun, hown5, hg5, hc5⟩ := app_lit hown4 b1 (by omega) (by omega)
               refine wl_append (s := .tmp 31) (x := .tmp 34) rfl rfl (hrun _) ?_
               clear hrun))
          · go_ret2
            have ho : ok1 = false := by have : (!ok1) = true := by assumption
                                        simpa using this
            refine ⟨HBS.out ▸ hbD, .inl ⟨?_, rfl⟩⟩
            have hs1 : showP T = none := by have h := hv1.out; rw [ho] at h; simpa using h
            rw [hv.out, hit.out, hcr2.out, iter_none (by rw [hst.out, hs1]; rfl)]
            rfl
          · have ho : ok1 = true := by have : (!ok1) = false := by assumption
                                       simpa using this
            have hs1 : showP T = some b1 := by have h := hv1.out; rw [ho] at h; simpa using h
            have hne : some bs ≠ (Value.slice a outs.length cap).ownBlock := fun e => by have := (hown4.lt bs e.symm).1; omega
            have hbE : Below bs w w5 := (hbD.alloc (Nat.le_of_lt hz4) _).grown hg5 (by simp; omega) (fun k hk => by have := (hown4.lt k hk).1; omega)
            have hblk5 := grown_blk hg5 hblk4 hne
            have hDs : (⟨D.toArray⟩ : ByteArray).size = D.length := rfl
            refine ⟨⟨⟨D.toArray⟩, outs ++ [St.key b1], some ⟨g, 0, none⟩, cap2, m', by simp, hblk5, hown5, hbE, by rw [hDs]; simp; omega, by rw [hDs]; omega, hc5, Lib.hid ?_⟩, ?_⟩
            · rw [hit.out, hcr2.out, iter_step (by rw [hst.out, hs1]; rfl)]
              simp [Function.comp_def]
            · rw [strLen_of hblk5, strLen_of hblk, hDs]; omega
        · by_cases h91 : c = 91
          · have d1 : (((S[0]'h0).toNat : Int) == 47) = false := by rw [hc0, h91]; rfl
            have d2 : (((S[0]'h0).toNat : Int) == 91) = true := by rw [hc0, h91]; rfl
            have HU := fun W h0 => Lib.hid (up_c W bs R ⟨#[93]⟩ [93] (by omega) (fun W' => idxany_br W' R (by omega)) h0)
            have hTD := List.takeWhile_append_dropWhile (p := fun c => !([93] : List UInt8).contains c) (l := r)
            unfold UpPost at HU
            simp only [hRl] at HU
            have hst := Lib.hid (show pstep (c :: r) = (bracketV (r.takeWhile (fun c => !([93] : List UInt8).contains c))).bind fun x => match r.dropWhile (fun c => !([93] : List UInt8).contains c) with
              | [] => none
              | _ :: t => some (x, t) by rw [pstep, if_neg h47, if_pos h91, pred93]; rfl)
            have hDl : (r.takeWhile (fun c => !([93] : List UInt8).contains c)).length + (r.dropWhile (fun c => !([93] : List UInt8).contains c)).length = r.length := by
              have := congrArg List.length hTD
              rw [List.length_append] at this
              exact this
            generalize hT : r.takeWhile (fun c => !([93] : List UInt8).contains c) = T at *
            generalize hDD : r.dropWhile (fun c => !([93] : List UInt8).contains c) = D at *
            obtain ⟨DB, hDB⟩ : ∃ DB : ByteArray, ⟨D.toArray⟩ = DB := ⟨_, rfl⟩
            have hDBl : DB.data.toList = D := by rw [← hDB]
            have hDBs1 : DB.size ≤ D.length := by rw [← hDB]; exact Nat.le_refl _
            have hDBs2 : D.length ≤ DB.size := by rw [← hDB]; exact Nat.le_refl _
            simp only [hDB] at HU
            have HB := fun W h1 h2 h3 => Lib.hid (bracket_c W ⟨T.toArray⟩ (by show T.length ≤ _; omega) h1 h2 h3)
            have HT := Lib.hid hT
            have HD := Lib.hid hDD
            have hcr2 := Lib.hid hcr
            clear hT hDD hTD h47 h91 hc0 hRl hcr hDB
            have hbA : Below bs w (wr.setCell ⟨bs, 0, none⟩ (.string R)) := hbw.setCell (p := ⟨bs, 0, none⟩) (Nat.le_refl _) _
            by_cases hDn : D = []
            · have hempD := emp_true (s := DB) (by rw [hDBl, hDn])
              have hs2 := Lib.hid (show pstep (c :: r) = none by rw [hst.out, hDn]; cases bracketV T <;> rfl)
              clear hDn hDBl
              go_wp2_with (first
                | (go_at_call 49; (with_reducible refine (HU _ hblk2).out.mono ?_); rintro e w1 ⟨rfl, w2, hb2, rfl⟩
                   have hblk3 := one_setCell (u := .string DB) (blk_step hblk2 hb2)
                   have hbC : Below bs w (w2.setCell ⟨bs, 0, none⟩ (.string DB)) := (hbA.trans (hb2.mono (by simp; omega))).setCell (p := ⟨bs, 0, none⟩) (Nat.le_refl _) _)
                | (go_at_call 52; (with_reducible refine (HB _ (he.below (by rw [← HBS.out]; exact hbC)) (hp.below (by rw [← HBS.out]; exact hbC)) (hm.below (by rw [← HBS.out]; exact hbC))).out.mono ?_); rintro e w4 ⟨st, ok1, rfl, hb4, hv1, hn1, hn2⟩
                   have hblk4 := blk_step hblk3 hb4
                   have hbD : Below bs w w4 := hbC.trans (hb4.mono (Nat.le_of_lt (lt_of_block hblk3)))
                   have hv1 := Lib.hid hv1
                   have hz4 := lt_of_block hblk4
                   have c4 := cell_of_one hblk4
                   have f4 := free_of_one hblk4))
              all_goals
                go_ret2
                refine ⟨HBS.out ▸ (hbD.alloc (Nat.le_of_lt hz4) _), .inl ⟨?_, rfl⟩⟩
                rw [hv.out, hit.out, hcr2.out, iter_none hs2.out]
                rfl
            · obtain ⟨d, t, hdt⟩ : ∃ d t, D = d :: t := by
                cases h : D with
                | nil => exact absurd h hDn
                | cons d t => exact ⟨d, t, rfl⟩
              have hempD := emp_false (s := DB) (by rw [hDBl]; exact hDn)
              have hDlen : D.length = t.length + 1 := by rw [hdt]; rfl
              obtain ⟨R2, hR2⟩ : ∃ R2 : ByteArray, DB.extract 1 DB.size = R2 := ⟨_, rfl⟩
              have hR2l : R2.data.toList = t := by rw [← hR2, ex_drop, hDBl, hdt]; simp
              have hR2s : R2.size = t.length := by
                have : R2.data.toList.length = R2.size := by simp
                rw [← this, hR2l]
              have hx1 : R2.size + 1 ≤ D.length := by omega
              have hDB0 : (1 : Int) ≤ DB.size := by omega
              have hs2 := Lib.hid (show pstep (c :: r) = (bracketV T).map fun x => (x, R2.data.toList) by rw [hst.out, hdt, hR2l]; cases bracketV T <;> rfl)
              clear hDn hDBl hdt hR2l hR2s hDlen
              go_wp2_with (first
                | (go_at_call 49; (with_reducible refine (HU _ hblk2).out.mono ?_); rintro e w1 ⟨rfl, w2, hb2, rfl⟩
                   have hblk3 := one_setCell (u := .string DB) (blk_step hblk2 hb2)
                   have hown3 := own_set (own_below hown2 hb2) (p := ⟨bs, 0, none⟩) (Nat.lt_succ_self _) (.string DB)
                   have hbC : Below bs w (w2.setCell ⟨bs, 0, none⟩ (.string DB)) := (hbA.trans (hb2.mono (by simp; omega))).setCell (p := ⟨bs, 0, none⟩) (Nat.le_refl _) _)
                | (go_at_call 52; (with_reducible refine (HB _ (he.below (by rw [← HBS.out]; exact hbC)) (hp.below (by rw [← HBS.out]; exact hbC)) (hm.below (by rw [← HBS.out]; exact hbC))).out.mono ?_); rintro e w4 ⟨st, ok1, rfl, hb4, hv1, hn1, hn2⟩
                   have hblk4 := blk_step hblk3 hb4
                   have hown4 := own_below hown3 hb4
                   have hbD : Below bs w w4 := hbC.trans (hb4.mono (Nat.le_of_lt (lt_of_block hblk3)))
                   have hv1 := Lib.hid hv1
                   have hz4 := lt_of_block hblk4
                   have c4 := cell_of_one hblk4
                   have f4 := free_of_one hblk4)
                | (at_builtin
                   have hown4' := (own_set hown4 (p := ⟨bs, 0, none⟩) (Nat.lt_succ_self _) (.string R2)).alloc (.cells #[.int .u8 st.k, .string st.t, .string st.i, .int .i64 st.a] 25)
                   have hblk4' := (Below.heap_alloc (w4.setCell ⟨bs, 0, none⟩ (.string R2)) (.cells #[.int .u8 st.k, .string st.t, .string st.i, .int .i64 st.a] 25) bs (by simpa using hz4)).trans (one_setCell (u := .string R2) hblk4)
                   have hbD' : Below bs w ((w4.setCell ⟨bs, 0, none⟩ (.string R2)).alloc (.cells #[.int .u8 st.k, .string st.t, .string st.i, .int .i64 st.a] 25)) := (hbD.setCell (p := ⟨bs, 0, none⟩) (Nat.le_refl _) _).alloc (by simp; omega) _
                   obtain ⟨g, cap2, w5, hrun, hown5, hg5, hc5⟩ := app_key hown4' st (by omega) (by simp; omega)
                   simp only [World.size_alloc, World.size_setCell] at hrun
                   refine wl_append (s := .tmp 52) (x := .tmp 54) rfl rfl (hrun _) ?_
                   clear hrun))
              · have ho : ok1 = true := by assumption
                have hs1 : bracketV T = some st := by have h := hv1.out; rw [ho] at h; simpa using h
                have hne : some bs ≠ (Value.slice a outs.length cap).ownBlock := fun e => by have := (hown4'.lt bs e.symm).1; omega
                have hbE : Below bs w w5 := (hbD'.alloc (by simp; omega) _).grown hg5 (by simp; omega) (fun k hk => by have := (hown4'.lt k hk).1; omega)
                have hblk5 := grown_blk hg5 hblk4' hne
                refine ⟨⟨R2, outs ++ [st], some ⟨g, 0, none⟩, cap2, m', by simp, hblk5, hown5, hbE, by simp; omega, by omega, hc5, Lib.hid ?_⟩, ?_⟩
                · rw [hit.out, hcr2.out, iter_step (by rw [hs2.out, hs1]; rfl)]
                  simp [Function.comp_def]
                · rw [strLen_of hblk5, strLen_of hblk]; omega
              · have ho : ok1 = false := by have : ¬ ok1 = true := by assumption
                                            simpa using this
                go_ret2
                refine ⟨HBS.out ▸ (hbD.alloc (Nat.le_of_lt hz4) _), .inl ⟨?_, rfl⟩⟩
                have hs1 : bracketV T = none := by have h := hv1.out; rw [ho] at h; simpa using h
                rw [hv.out, hit.out, hcr2.out, iter_none (by rw [hs2.out, hs1]; rfl)]
                rfl
          · have hfin := Lib.hid (show progParse s.data.toList = none by
              rw [hv.out, hit.out, hcr]
              simp [iter, pstep, h47, h91])
            have b1 : ((S[0]'h0).toNat : Int) = 47 → False := fun h => h47 (by rw [← hc0]; apply UInt8.toNat_inj.1; show _ = _; simp; omega)
            have b2 : ((S[0]'h0).toNat : Int) = 91 → False := fun h => h91 (by rw [← hc0]; apply UInt8.toNat_inj.1; show _ = _; simp; omega)
            have d1 : (((S[0]'h0).toNat : Int) == 47) = false := by rw [beq_eq_false_iff_ne]; exact b1
            have d2 : (((S[0]'h0).toNat : Int) == 91) = false := by rw [beq_eq_false_iff_ne]; exact b2
            clear b1 b2 h47 h91 hc0 hcr hRl
            go_wp2_with fail
            go_ret2
            exact ⟨HBS.out ▸ hbw.setCell (p := ⟨bs, 0, none⟩) (Nat.le_refl _) _, .inl ⟨hfin.out, rfl⟩⟩
end Go.Proofs.YtdapimjhjnbfdaaDoor
