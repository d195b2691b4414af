/-
  The examples of chapter 29. No condition. (Printed by gen_fk.py.)
  Chapter 29: the law's fine; picks' plain laws. Conditions: the lists lie in memory, weights and lengths are bounded.
-/
import Derived.Test.YtmhkacafilpliaaGreatFJ
import Derived.Test.YtmhkacafilpliaaGreatET
import Derived.Test.YtmhkacafilpliaaGreatEU
import Derived.Test.YtmhkacafilpliaaGreatEW
import Derived.Test.YtmhkacafilpliaaGreatTC
import Derived.Test.YtmhkacafilpliaaGreatVF
namespace Go.Proofs.YtmhkacafilpliaaGreat
open Go.RowKit Go.Sort Go.Shelf Go.BigFrame

section
variable {P : Program} {Q : Exit → Act → World → Prop}
/-- A region in its written order, each operation shown once. -/
theorem wp_region_line {id : Nat} {l : List Oper} {a0 : Act} {w0 : World} {S : World → Prop} {G : Nat → Value → World → Prop} (E : World → World → Prop) (hap : dstApartB l.toArray = true) (hsz : dstLtB l.toArray a0.tmps.size = true) (hord : ordB l.toArray = true)
    (hup : ∀ i v w w', E w w' → G i v w → G i v w') (h0 : S w0)
    (hstep : AllFrom (PStep P l.toArray Q S G E a0) 0 l)
    (hend : ∀ a w, PFrm l.toArray S a0 a w → (∀ (i : Nat) o d, l.toArray[i]? = some o → o.dst = some d → G i (a.tmps.getD d undef) w) → Q .normal a w) :
    (Code.region id l.toArray false).wp P Q a0 w0 := by
  refine wp_region_lit ?_
  have main : ∀ (rest : List Oper) (k : Nat), (∀ j : Nat, rest[j]? = l[k + j]?) → k + rest.length = l.length → ∀ a w, PFrm l.toArray S a0 a w → (∀ (i : Nat) o d, i < k → l.toArray[i]? = some o → o.dst = some d → G i (a.tmps.getD d undef) w) → wpList P l.toArray Q rest a w := by
    intro rest
    induction rest with
    | nil =>
      intro k _ hk a w F D
      exact hend a w F fun i o d hi hd => D i o d (by
        have h1 := (Array.getElem?_eq_some_iff.1 hi).1
        simp at h1 hk
        omega) hi hd
    | cons o rest ih =>
      intro k hr hk a w F D
      have ho : l[k]? = some o := by have := hr 0; simpa using this.symm
      have hoA : l.toArray[k]? = some o := by simpa using ho
      have h1 := hstep.at k o ho
      rw [Nat.zero_add] at h1
      obtain ⟨h2, h3⟩ := h1 a w F fun e he _ oj d hj hd => D e.on oj d (ord_spec hord hoA he) hj hd
      simp only [wpList, h2, if_true]
      refine .inl (h3 _ fun v w' hS hE hG => ih (k + 1) (fun j => ?_) (by simp at hk; omega) _ _ ⟨hS, ?_, ?_, ?_⟩ ?_)
      · have := hr (j + 1)
        rw [show k + 1 + j = k + (j + 1) by omega, ← this]
        simp
      · rw [← F.defers]; unfold Act.put; split <;> rfl
      · rw [← F.len]; unfold Act.put; split <;> simp
      · intro t ht
        rw [← F.old t ht]
        cases hd : o.dst with
        | none => rfl
        | some d =>
          have : d ≠ t := fun h => ht k o hoA (by rw [hd, h])
          simp only [Act.put]
          exact getD_put_ne this
      · intro i oi d hi ho' hd
        by_cases hik : i = k
        · subst hik
          have : oi = o := Option.some.inj (ho'.symm.trans hoA)
          subst this
          have hlt : d < a.tmps.size := by rw [F.len]; exact dstLt_spec hsz ho' hd
          rw [hd]
          simp only [Act.put]
          simpa [Array.getD, hlt] using hG
        · have h4 := hup i _ w w' hE (D i oi d (by omega) ho' hd)
          cases hdo : o.dst with
          | none => exact h4
          | some d' =>
            have : d' ≠ d := fun h => dstApart_spec hap ho' hoA hik hd (by rw [hdo, h])
            simp only [Act.put]
            rw [getD_put_ne this]
            exact h4
  exact main l 0 (fun j => by rw [Nat.zero_add]) (by omega) a0 w0 ⟨h0, rfl, rfl, fun _ _ => rfl⟩ fun i _ _ hi => absurd hi (Nat.not_lt_zero _)
end
theorem fo_leafU (n : Nat) (kd : Bool) (key s : ByteArray) : fF (n + 1) [⟨kd, key, textU s⟩] = .cons ⟨kd, key, 3, s⟩ .nil .nil := by
  rw [fF_one, show (textU s).subs = [] by simp [Val.subs, textU], fF_nil]; rfl
theorem textU_w (s : ByteArray) : (textU s).w = 1 + s.size := by
  rw [Val.w_eq]
  show 1 + s.size + 0 + 0 + 0 = _
  omega
theorem same_textU (s : ByteArray) : sameV (textU s) (textU s) = true := by
  have h := (cmpV_zero 256 (textU s) (textU s) (textU_within s 256) (textU_within s 256)).2 rfl
  rw [sameV, may_of (textU_within s 256), h]
  rfl
theorem f29_ab : farI (textU ⟨#[97]⟩) (textU ⟨#[98]⟩) = (1 : Nat) :=
  farI_of (n := 1) (m := 1) (textU_within _ 256) (textU_within _ 256) (textU_size _) (textU_size _) (by decide) (by decide) (by decide) (by decide)
    (by rw [Val.fo, fo_leafU 256]) (by rw [Val.fo, fo_leafU 256]) (by kernel_rfl)
theorem s29_ab : sameV (textU ⟨#[97]⟩) (textU ⟨#[98]⟩) = false := same_far f29_ab (by decide)
theorem f29_ba : farI (textU ⟨#[98]⟩) (textU ⟨#[97]⟩) = (1 : Nat) :=
  farI_of (n := 1) (m := 1) (textU_within _ 256) (textU_within _ 256) (textU_size _) (textU_size _) (by decide) (by decide) (by decide) (by decide)
    (by rw [Val.fo, fo_leafU 256]) (by rw [Val.fo, fo_leafU 256]) (by kernel_rfl)
theorem s29_ba : sameV (textU ⟨#[98]⟩) (textU ⟨#[97]⟩) = false := same_far f29_ba (by decide)
theorem f29_ac : farI (textU ⟨#[97]⟩) (textU ⟨#[99]⟩) = (1 : Nat) :=
  farI_of (n := 1) (m := 1) (textU_within _ 256) (textU_within _ 256) (textU_size _) (textU_size _) (by decide) (by decide) (by decide) (by decide)
    (by rw [Val.fo, fo_leafU 256]) (by rw [Val.fo, fo_leafU 256]) (by kernel_rfl)
theorem s29_ac : sameV (textU ⟨#[97]⟩) (textU ⟨#[99]⟩) = false := same_far f29_ac (by decide)
theorem f29_bc : farI (textU ⟨#[98]⟩) (textU ⟨#[99]⟩) = (1 : Nat) :=
  farI_of (n := 1) (m := 1) (textU_within _ 256) (textU_within _ 256) (textU_size _) (textU_size _) (by decide) (by decide) (by decide) (by decide)
    (by rw [Val.fo, fo_leafU 256]) (by rw [Val.fo, fo_leafU 256]) (by kernel_rfl)
theorem s29_bc : sameV (textU ⟨#[98]⟩) (textU ⟨#[99]⟩) = false := same_far f29_bc (by decide)
theorem f29_xy : farI (listV [textU ⟨#[49]⟩, textU ⟨#[50]⟩, textU ⟨#[51]⟩]) (listV [textU ⟨#[49]⟩, textU ⟨#[50]⟩, textU ⟨#[52]⟩]) = (1 : Nat) :=
  farI_of (n := 4) (m := 4) (listV_within' (n := 255) (by simp [textU_within])) (listV_within' (n := 255) (by simp [textU_within])) (by simp [listV_size, textU_size]) (by simp [listV_size, textU_size]) (by decide) (by decide) (by decide) (by decide)
    (by rw [Val.fo, fo_list 256]) (by rw [Val.fo, fo_list 256]) (by kernel_rfl)
theorem s29_xy : sameV (listV [textU ⟨#[49]⟩, textU ⟨#[50]⟩, textU ⟨#[51]⟩]) (listV [textU ⟨#[49]⟩, textU ⟨#[50]⟩, textU ⟨#[52]⟩]) = false := same_far f29_xy (by decide)
theorem f29_xz : farI (listV [textU ⟨#[49]⟩, textU ⟨#[50]⟩, textU ⟨#[51]⟩]) (listV [textU ⟨#[48]⟩, textU ⟨#[50]⟩, textU ⟨#[51]⟩]) = (1 : Nat) :=
  farI_of (n := 4) (m := 4) (listV_within' (n := 255) (by simp [textU_within])) (listV_within' (n := 255) (by simp [textU_within])) (by simp [listV_size, textU_size]) (by simp [listV_size, textU_size]) (by decide) (by decide) (by decide) (by decide)
    (by rw [Val.fo, fo_list 256]) (by rw [Val.fo, fo_list 256]) (by kernel_rfl)
theorem s29_xz : sameV (listV [textU ⟨#[49]⟩, textU ⟨#[50]⟩, textU ⟨#[51]⟩]) (listV [textU ⟨#[48]⟩, textU ⟨#[50]⟩, textU ⟨#[51]⟩]) = false := same_far f29_xz (by decide)
theorem f29_yz : farI (listV [textU ⟨#[49]⟩, textU ⟨#[50]⟩, textU ⟨#[52]⟩]) (listV [textU ⟨#[48]⟩, textU ⟨#[50]⟩, textU ⟨#[51]⟩]) = (2 : Nat) :=
  farI_of (n := 4) (m := 4) (listV_within' (n := 255) (by simp [textU_within])) (listV_within' (n := 255) (by simp [textU_within])) (by simp [listV_size, textU_size]) (by simp [listV_size, textU_size]) (by decide) (by decide) (by decide) (by decide)
    (by rw [Val.fo, fo_list 256]) (by rw [Val.fo, fo_list 256]) (by kernel_rfl)
theorem s29_yz : sameV (listV [textU ⟨#[49]⟩, textU ⟨#[50]⟩, textU ⟨#[52]⟩]) (listV [textU ⟨#[48]⟩, textU ⟨#[50]⟩, textU ⟨#[51]⟩]) = false := same_far f29_yz (by decide)
theorem a29_ab : areB (textU ⟨#[97]⟩) (textU ⟨#[98]⟩) = false := by rw [areB, near_kind f29_ab (by decide) rfl]; rfl
theorem a29_xy : areB (listV [textU ⟨#[49]⟩, textU ⟨#[50]⟩, textU ⟨#[51]⟩]) (listV [textU ⟨#[49]⟩, textU ⟨#[50]⟩, textU ⟨#[52]⟩]) = true := by rw [areB, near_k (n := 4) (m := 4) f29_xy (by decide) rfl ((szV_of (listV_within' (n := 255) (by simp [textU_within]))).trans (by simp [listV_size, textU_size])) ((szV_of (listV_within' (n := 255) (by simp [textU_within]))).trans (by simp [listV_size, textU_size])) (by decide)]; rfl
theorem a29_xz : areB (listV [textU ⟨#[49]⟩, textU ⟨#[50]⟩, textU ⟨#[51]⟩]) (listV [textU ⟨#[48]⟩, textU ⟨#[50]⟩, textU ⟨#[51]⟩]) = true := by rw [areB, near_k (n := 4) (m := 4) f29_xz (by decide) rfl ((szV_of (listV_within' (n := 255) (by simp [textU_within]))).trans (by simp [listV_size, textU_size])) ((szV_of (listV_within' (n := 255) (by simp [textU_within]))).trans (by simp [listV_size, textU_size])) (by decide)]; rfl
theorem of29_a : pickO [textU ⟨#[97]⟩] [textU ⟨#[98]⟩] [textU ⟨#[97]⟩] = 0 := by simp [pickO, eqlW, s29_ba, s29_ab, same_textU]
theorem of29_b : pickO [textU ⟨#[97]⟩] [textU ⟨#[98]⟩] [textU ⟨#[99]⟩] = 3 := by simp [pickO, eqlW, s29_bc, s29_ab, s29_ac, a29_ab]
theorem of29_c : pickO [listV [textU ⟨#[49]⟩, textU ⟨#[50]⟩, textU ⟨#[51]⟩]] [listV [textU ⟨#[49]⟩, textU ⟨#[50]⟩, textU ⟨#[52]⟩]] [listV [textU ⟨#[48]⟩, textU ⟨#[50]⟩, textU ⟨#[51]⟩]] = 2 := by simp [pickO, eqlW, s29_xy, s29_xz, s29_yz, a29_xy, a29_xz]
theorem rest29 : (restN [textU ⟨#[97]⟩] [textU ⟨#[97]⟩, textU ⟨#[98]⟩] 2).length = 1 := by
  rw [restN_yes (v := textU ⟨#[98]⟩) rfl (by simp [hasV, s29_ba]), restN_no (v := textU ⟨#[97]⟩) rfl (by simp [hasV, same_textU])]
  rfl
/-- A list of values. -/
def GotL (l : List Val) (v : Value) (w : World) : Prop := ∃ y : LA, v = .slice y.a y.l.length y.c ∧ y.v = l ∧ y.Rd w
theorem stab_L (l : List Val) : Stab (GotL l) := fun _ _ _ hb ⟨y, h1, h2, h3⟩ => ⟨y, h1, h2, h3.up hb⟩
abbrev GU (k : Int) (v : Value) (_ : World) : Prop := v = .int .u8 k
theorem stab_U (k : Int) : Stab (GU k) := fun _ _ _ _ h => h
def GN (n : Nat) (v : Value) (_ : World) : Prop := ∃ (a : Option Addr) (c : Nat), v = .slice a n c
theorem stab_N (n : Nat) : Stab (GN n) := fun _ _ _ _ h => h
def GotLV (l : List Val) (w : World) (e : Ending) (w' : World) : Prop := ∃ y : LA, e = .returned (.slice y.a y.l.length y.c) ∧ y.v = l ∧ y.Rd w' ∧ Below w.heap.size w w'
def textA (s : ByteArray) : AV := ⟨3, s, none, 0, [], none, 0, []⟩
theorem textA_v (s : ByteArray) : (textA s).v = textU s := by rw [AV.v_eq]; rfl
theorem textA_rd (w : World) (s : ByteArray) : Rd w (textA s) := .mk SlE.nil SlE.nil (by simp [textA]) (by simp [textA])
set_option maxRecDepth 100000 in
set_option maxHeartbeats 3200000 in
theorem words29_c (w : World) (K n : Nat) (ks : List ByteArray) (hK : w.heap[K]? = some (.cells (ks.flatMap strE).toArray 9 (0, 0))) (hn : n = ks.length) (hl : ks.length ≤ 1000) (hs : ∀ s ∈ ks, s.size ≤ 1000) :
    Calls Tryz.prog 38 #[.slice (some ⟨K, 0, none⟩) n n] w (GotLV (ks.map textU) w) := by
  subst hn
  have hsl : SlE strE 1 w 0 w.heap.size (some ⟨K, 0, none⟩) ks := (lit_sl (enc := strE) (size := 1) (fun _ => rfl) hK).widen (Nat.zero_le _) (Array.getElem?_eq_some_iff.1 hK).1
  have HSL := Lib.hid hsl
  have HS := Lib.hid hs
  clear hsl hs hK
  go_enter Tryz.func38, Tryz.ntmps38
  go_upto_region 3 with fail
  go_loopw [3, 4] (fun s3 s4 wr => ∃ (k : Nat) (a : Option Addr) (c : Nat), k ≤ ks.length ∧ s4 = .int .i64 (k : Int) ∧ s3 = .slice a ((ks.take k).map textA).length c ∧ Hid (OwnV wr w.heap.size (.slice a ((ks.take k).map textA).length c) ((ks.take k).map textA)) ∧ Hid (Below w.heap.size w wr)) (fun _ s4 _ => ks.length - (intOf s4).toNat)
  case atStart => exact ⟨0, none, 0, Nat.zero_le _, rfl, rfl, Lib.hid (World.ownsRow_nil _ _ _ _), Lib.hid (Below.refl _ _)⟩
  case round =>
    obtain ⟨k, a, c, hk, rfl, rfl, HO, HBR⟩ := hrel
    have hrl : ((ks.take k).map textA).length = k := by rw [List.length_map, List.length_take]; omega
    have HRL := Lib.hid hrl
    clear hrl
    by_cases hlt : k < ks.length
    · have hks : ks[k]? = some ks[k] := List.getElem?_eq_getElem hlt
      generalize ks[k] = s at *
      have hlt' : (k : Int) < (ks.length : Int) := by omega
      have hk0 : (0 : Int) ≤ (k : Int) := by omega
      obtain ⟨b, off, hla, -, -, -, c0⟩ := key_at HSL.out hks
      have k1 := blkv HBR.out c0
      have hz := HBR.out.size
      have hlit : SlE AV.enc 4 (wr.alloc (.cells #[.int .u8 (textA s).k, .string (textA s).t, .slice (textA s).la (textA s).l.length (textA s).lc, .slice (textA s).ka (textA s).ks.length (textA s).kc] 26)) wr.heap.size (wr.heap.size + 1) (some ⟨wr.heap.size, 0, none⟩) [textA s] := lit_sl (enc := AV.enc) (size := 4) (l := [textA s]) (t := 26) (fr := (0, 0)) AV.enc_len (heap_alloc_new _ _)
      obtain ⟨v', W', hrun, hown', hgr, hat⟩ := app_val (c := 1) (own_below HO.out ((Below.refl _ _).alloc (Nat.le_refl _) (.cells #[.int .u8 (textA s).k, .string (textA s).t, .slice (textA s).la (textA s).l.length (textA s).lc, .slice (textA s).ka (textA s).ks.length (textA s).kc] 26))) hlit (by rw [HRL.out]; simp; omega) (by simp; omega)
      rw [show (ks.take k).map textA ++ [textA s] = (ks.take (k + 1)).map textA by rw [List.take_add_one, hks]; simp] at hown'
      obtain ⟨a', c', rfl⟩ := own_formE hown'
      have hb2 : Below w.heap.size w W' := (HBR.out.trans ((Below.refl _ _).alloc hz _)).grown hgr (by simp; omega) (fun q hq => (HO.out.lt q hq).1)
      have HOW' := Lib.hid hown'
      have HB2 := Lib.hid hb2
      rw [hla]
      simp only [textA, List.length_nil, List.length_singleton] at hrun
      clear hown' hgr hat hlit hb2 hks hla c0 hz
      go_wp2_with (at_builtin; refine wl_append (s := .tmp 11) (x := .tmp 17) rfl rfl (hrun _) ?_; clear hrun)
      exact ⟨⟨k + 1, a', c', by omega, by go_num, by simp, HOW', HB2⟩, by simp [intOf]; omega⟩
    · have hkl : k = ks.length := by omega
      subst hkl
      have hge : ¬ (ks.length : Int) < (ks.length : Int) := by omega
      go_wp2_with fail
      refine bodyPost_ret (v := .slice a ((ks.take ks.length).map textA).length c) (by simp [results, Tryz.results38, go_sem]) rfl ⟨⟨a, (ks.take ks.length).map textA, c⟩, rfl, ?_, ⟨(own_sl AV.enc_len HO.out).widen (Nat.zero_le _) (Nat.le_refl _), by rw [HRL.out]; omega, fun y hy => ?_⟩, HBR.out⟩
      · rw [LA.v, List.take_length, List.map_map]
        exact List.map_congr_left fun s _ => textA_v s
      · rw [List.take_length] at hy
        obtain ⟨s, h1, rfl⟩ := List.mem_map.1 hy
        refine ⟨textA_rd _ _, ?_⟩
        rw [AV.w, textA_v, textU_w]
        have := HS.out s h1
        omega
set_option maxRecDepth 100000 in
theorem nested29_c (w : World) (K n : Nat) (ks : List ByteArray) (hK : w.heap[K]? = some (.cells (ks.flatMap strE).toArray 9 (0, 0))) (hn : n = ks.length) (hl : ks.length ≤ 1000) (hs : ∀ s ∈ ks, s.size ≤ 1000) (hw : (listV (ks.map textU)).w ≤ 1048576) :
    Calls Tryz.prog 39 #[.slice (some ⟨K, 0, none⟩) n n] w (GotLV [listV (ks.map textU)] w) := by
  subst hn
  have HC := Lib.hid (words29_c w K _ ks hK rfl hl hs)
  clear hK
  go_enter Tryz.func39, Tryz.ntmps39
  go_wp2_with (go_at_call 38; (with_reducible refine HC.out.mono ?_); rintro e w2 ⟨y, rfl, hv, hr, hb⟩)
  have hnew := heap_alloc_new w2 (.cells #[.int .u8 (⟨7, ⟨#[]⟩, y.a, y.c, y.l, none, 0, []⟩ : AV).k, .string (⟨7, ⟨#[]⟩, y.a, y.c, y.l, none, 0, []⟩ : AV).t, .slice (⟨7, ⟨#[]⟩, y.a, y.c, y.l, none, 0, []⟩ : AV).la (⟨7, ⟨#[]⟩, y.a, y.c, y.l, none, 0, []⟩ : AV).l.length (⟨7, ⟨#[]⟩, y.a, y.c, y.l, none, 0, []⟩ : AV).lc, .slice (⟨7, ⟨#[]⟩, y.a, y.c, y.l, none, 0, []⟩ : AV).ka (⟨7, ⟨#[]⟩, y.a, y.c, y.l, none, 0, []⟩ : AV).ks.length (⟨7, ⟨#[]⟩, y.a, y.c, y.l, none, 0, []⟩ : AV).kc] 26)
  have hsl := (lit_sl (enc := AV.enc) (size := 4) (l := [⟨7, ⟨#[]⟩, y.a, y.c, y.l, none, 0, []⟩]) (t := 26) (fr := (0, 0)) AV.enc_len hnew).widen (Nat.zero_le _) (by simp : _ ≤ (w2.alloc (.cells #[.int .u8 (⟨7, ⟨#[]⟩, y.a, y.c, y.l, none, 0, []⟩ : AV).k, .string (⟨7, ⟨#[]⟩, y.a, y.c, y.l, none, 0, []⟩ : AV).t, .slice (⟨7, ⟨#[]⟩, y.a, y.c, y.l, none, 0, []⟩ : AV).la (⟨7, ⟨#[]⟩, y.a, y.c, y.l, none, 0, []⟩ : AV).l.length (⟨7, ⟨#[]⟩, y.a, y.c, y.l, none, 0, []⟩ : AV).lc, .slice (⟨7, ⟨#[]⟩, y.a, y.c, y.l, none, 0, []⟩ : AV).ka (⟨7, ⟨#[]⟩, y.a, y.c, y.l, none, 0, []⟩ : AV).ks.length (⟨7, ⟨#[]⟩, y.a, y.c, y.l, none, 0, []⟩ : AV).kc] 26)).heap.size)
  have hyv : (AV.v ⟨7, ⟨#[]⟩, y.a, y.c, y.l, none, 0, []⟩) = listV (ks.map textU) := by rw [AV.v_eq, ← hv]; rfl
  have hba := (Below.refl w2.heap.size w2).alloc (Nat.le_refl _) (.cells #[.int .u8 (⟨7, ⟨#[]⟩, y.a, y.c, y.l, none, 0, []⟩ : AV).k, .string (⟨7, ⟨#[]⟩, y.a, y.c, y.l, none, 0, []⟩ : AV).t, .slice (⟨7, ⟨#[]⟩, y.a, y.c, y.l, none, 0, []⟩ : AV).la (⟨7, ⟨#[]⟩, y.a, y.c, y.l, none, 0, []⟩ : AV).l.length (⟨7, ⟨#[]⟩, y.a, y.c, y.l, none, 0, []⟩ : AV).lc, .slice (⟨7, ⟨#[]⟩, y.a, y.c, y.l, none, 0, []⟩ : AV).ka (⟨7, ⟨#[]⟩, y.a, y.c, y.l, none, 0, []⟩ : AV).ks.length (⟨7, ⟨#[]⟩, y.a, y.c, y.l, none, 0, []⟩ : AV).kc] 26)
  have hr2 := hr.up hba
  refine bodyPost_ret (v := .slice (some ⟨w2.heap.size, 0, none⟩) 1 1) (by simp [results, Tryz.results39, go_sem]) rfl ⟨⟨some ⟨w2.heap.size, 0, none⟩, [⟨7, ⟨#[]⟩, y.a, y.c, y.l, none, 0, []⟩], 1⟩, rfl, by rw [LA.v, List.map_cons, List.map_nil, hyv], ⟨hsl, by simp, fun z hz => ?_⟩, below_via hb hba⟩
  obtain rfl := List.mem_singleton.1 hz
  exact ⟨.mk hr2.sl SlE.nil (by simp) fun q hq => (hr2.kids q hq).1, by rw [AV.w, hyv]; exact hw⟩
theorem short_of {ks : List ByteArray} (h : ks.all (fun s => decide (s.size ≤ 1000)) = true) : ∀ s ∈ ks, s.size ≤ 1000 := fun s hs => of_decide_eq_true (List.all_eq_true.1 h s hs)
theorem texts_w : ∀ {ks : List ByteArray}, (∀ s ∈ ks, s.size ≤ 1000) → ((ks.map textU).map Val.w).sum ≤ 1001 * ks.length
  | [], _ => by simp
  | s :: ks, h => by
    have h1 := texts_w (ks := ks) fun x hx => h x (List.mem_cons_of_mem _ hx)
    have h2 := h s List.mem_cons_self
    rw [List.map_cons, List.map_cons, List.sum_cons, textU_w, List.length_cons]
    omega
theorem words_s {w : World} {k : Nat} {ks : List ByteArray} (hK : w.heap[k]? = some (.cells (ks.flatMap strE).toArray 9 (0, 0))) (hl : decide (ks.length ≤ 1000) = true) (hs : ks.all (fun s => decide (s.size ≤ 1000)) = true) : Calls Tryz.prog 38 #[.slice (some ⟨k, 0, none⟩) ks.length ks.length] w (GotLV (ks.map textU) w) := words29_c w k _ ks hK rfl (of_decide_eq_true hl) (short_of hs)
theorem nested_s {w : World} {k : Nat} {ks : List ByteArray} (hK : w.heap[k]? = some (.cells (ks.flatMap strE).toArray 9 (0, 0))) (hl : decide (ks.length ≤ 1000) = true) (hs : ks.all (fun s => decide (s.size ≤ 1000)) = true) : Calls Tryz.prog 39 #[.slice (some ⟨k, 0, none⟩) ks.length ks.length] w (GotLV [listV (ks.map textU)] w) := nested29_c w k _ ks hK rfl (of_decide_eq_true hl) (short_of hs) (by
  have := texts_w (short_of hs)
  have := of_decide_eq_true hl
  rw [listV_w]
  omega)
theorem of_s {w : World} {x y z : LA} {a b c : List Val} {k : Int} (h : pickO a b c = k) (hx : x.v = a) (hy : y.v = b) (hz : z.v = c) (rx : x.Rd w) (ry : y.Rd w) (rz : z.Rd w) : Calls Tryz.prog 21 #[.slice x.a x.l.length x.c, .slice y.a y.l.length y.c, .slice z.a z.l.length z.c] w (Ret (.int .u8 k) w) := by
  have := pof29_c w x y z rx ry rz
  rwa [hx, hy, hz, h] at this
theorem rest_s {w : World} {x y : LA} {a b : List Val} {n m : Nat} (h : (restN a b m).length = n) (hm : b.length = m) (hx : x.v = a) (hy : y.v = b) (rx : x.Rd w) (ry : y.Rd w) : Calls Tryz.prog 19 #[.slice x.a x.l.length x.c, .slice y.a y.l.length y.c] w (fun e w' => ∃ v, e = .returned v ∧ GN n v w' ∧ Below w.heap.size w w') := by
  refine (prest_c w x y rx.rw ry).mono ?_
  rintro e w' ⟨p, rfl, -, hb⟩
  have hl : y.l.length = m := by rw [← hm, ← hy, LA.v, List.length_map]
  rw [hl, hx, hy, h]
  exact ⟨_, rfl, ⟨_, _, rfl⟩, hb⟩
def GL29 : List (Value → World → Prop) := [GotK [⟨#[97]⟩], GotL [textU ⟨#[97]⟩], GotK [⟨#[98]⟩], GotL [textU ⟨#[98]⟩], GotK [⟨#[97]⟩], GotL [textU ⟨#[97]⟩], GU 0, GB true, GB true, GotK [⟨#[97]⟩], GotL [textU ⟨#[97]⟩], GotK [⟨#[98]⟩], GotL [textU ⟨#[98]⟩], GotK [⟨#[99]⟩], GotL [textU ⟨#[99]⟩], GU 3, GB true, GB true, GB true, GotK [⟨#[49]⟩, ⟨#[50]⟩, ⟨#[51]⟩], GotL [listV [textU ⟨#[49]⟩, textU ⟨#[50]⟩, textU ⟨#[51]⟩]], GotK [⟨#[49]⟩, ⟨#[50]⟩, ⟨#[52]⟩], GotL [listV [textU ⟨#[49]⟩, textU ⟨#[50]⟩, textU ⟨#[52]⟩]], GotK [⟨#[48]⟩, ⟨#[50]⟩, ⟨#[51]⟩], GotL [listV [textU ⟨#[48]⟩, textU ⟨#[50]⟩, textU ⟨#[51]⟩]], GU 2, GB true, GB true, GB true, GotK [⟨#[97]⟩], GotL [textU ⟨#[97]⟩], GotK [⟨#[97]⟩, ⟨#[98]⟩], GotL [textU ⟨#[97]⟩, textU ⟨#[98]⟩], GN 1, GI 1, GB true, GB true, GB true]
theorem GL29_stab : ∀ g ∈ GL29, Stab g := by
  unfold GL29
  repeat (first | exact fun _ h => absurd h List.not_mem_nil | refine List.forall_mem_cons.2 ⟨by first | exact stab_A _ | exact stab_S _ | exact stab_B _ | exact stab_I _ | exact stab_K _ | exact stab_L _ | exact stab_U _ | exact stab_N _, ?_⟩)
theorem GL29_up (i : Nat) (v : Value) (w w' : World) (hb : Below w.heap.size w w') (h : GL29.getD i (fun _ _ => True) v w) : GL29.getD i (fun _ _ => True) v w' := by
  rw [List.getD_eq_getElem?_getD] at h ⊢
  cases hg : GL29[i]? with
  | none => trivial
  | some g => rw [hg] at h; exact GL29_stab g (List.mem_of_getElem? hg) v w w' hb h
def L29Q (W0 : World) : Exit → Act → World → Prop
  | .normal, a, w' => a.tmps.getD 0 undef = .bool true ∧ a.defers = [] ∧ Below W0.heap.size W0 w'
  | _, _, _ => False
set_option maxRecDepth 100000 in
set_option maxHeartbeats 12800000 in
theorem lives29_c (w : World) : Calls Tryz.prog 17 #[] w (Ret (.bool true) w) := by
  go_enter Tryz.func17, Tryz.ntmps17
  go_upto_region 1 with fail
  refine wp_mono (Q := L29Q w) ?reg ?rest
  case reg =>
    refine wp_region_line (S := fun W => Below w.heap.size w W) (G := fun i => GL29.getD i (fun _ _ => True)) (fun W W' => Below W.heap.size W W') (by kernel_rfl) (by kernel_rfl) (by kernel_rfl) ?hup ?h0 ?hstep ?hend
    case hup => exact GL29_up
    case h0 => exact Below.refl _ _
    case hend => exact fun a w F D => ⟨D 37 _ 0 rfl rfl, F.defers, F.cls⟩
    case hstep =>
      refine ⟨?_, ?_, ?_, ?_, ?_, ?_, ?_, ?_, ?_, ?_, ?_, ?_, ?_, ?_, ?_, ?_, ?_, ?_, ?_, ?_, ?_, ?_, ?_, ?_, ?_, ?_, ?_, ?_, ?_, ?_, ?_, ?_, ?_, ?_, ?_, ?_, ?_, ?_, trivial⟩
      · intro a w F D
        have hg := gotk_new w [⟨#[97]⟩]
        have FC := Lib.hid F.cls
        refine ⟨wanted_none rfl, fun K hK => ?_⟩
        have HK := Lib.hid hK
        clear hK D F
        replace hg := Lib.hid hg
        go_simp
        exact HK.out _ _ (below_al FC.out) (below_al (Below.refl _ _)) hg.out
      · intro a w F D
        obtain ⟨k1, e1, hK1⟩ : GotK [⟨#[97]⟩] (a.tmps.getD 1 undef) w := (D ⟨0, .data⟩ (by simp) rfl _ _ rfl rfl)
        replace e1 := get_of e1 (by simp [undef])
        have HC := Lib.hid (words_s hK1 rfl rfl)
        clear hK1
        have FC := Lib.hid F.cls
        refine ⟨wanted_none rfl, fun K hK => ?_⟩
        have HK := Lib.hid hK
        clear hK D F
        go_simp
        refine (HC.out).mono ?_
        rintro e w' ⟨y, rfl, hv, hr, hb⟩
        exact HK.out _ _ (below_via FC.out hb) hb ⟨y, rfl, hv, hr⟩
      · intro a w F D
        have hg := gotk_new w [⟨#[98]⟩]
        have FC := Lib.hid F.cls
        refine ⟨wanted_none rfl, fun K hK => ?_⟩
        have HK := Lib.hid hK
        clear hK D F
        replace hg := Lib.hid hg
        go_simp
        exact HK.out _ _ (below_al FC.out) (below_al (Below.refl _ _)) hg.out
      · intro a w F D
        obtain ⟨k3, e3, hK3⟩ : GotK [⟨#[98]⟩] (a.tmps.getD 3 undef) w := (D ⟨2, .data⟩ (by simp) rfl _ _ rfl rfl)
        replace e3 := get_of e3 (by simp [undef])
        have HC := Lib.hid (words_s hK3 rfl rfl)
        clear hK3
        have FC := Lib.hid F.cls
        refine ⟨wanted_none rfl, fun K hK => ?_⟩
        have HK := Lib.hid hK
        clear hK D F
        go_simp
        refine (HC.out).mono ?_
        rintro e w' ⟨y, rfl, hv, hr, hb⟩
        exact HK.out _ _ (below_via FC.out hb) hb ⟨y, rfl, hv, hr⟩
      · intro a w F D
        have hg := gotk_new w [⟨#[97]⟩]
        have FC := Lib.hid F.cls
        refine ⟨wanted_none rfl, fun K hK => ?_⟩
        have HK := Lib.hid hK
        clear hK D F
        replace hg := Lib.hid hg
        go_simp
        exact HK.out _ _ (below_al FC.out) (below_al (Below.refl _ _)) hg.out
      · intro a w F D
        obtain ⟨k5, e5, hK5⟩ : GotK [⟨#[97]⟩] (a.tmps.getD 5 undef) w := (D ⟨4, .data⟩ (by simp) rfl _ _ rfl rfl)
        replace e5 := get_of e5 (by simp [undef])
        have HC := Lib.hid (words_s hK5 rfl rfl)
        clear hK5
        have FC := Lib.hid F.cls
        refine ⟨wanted_none rfl, fun K hK => ?_⟩
        have HK := Lib.hid hK
        clear hK D F
        go_simp
        refine (HC.out).mono ?_
        rintro e w' ⟨y, rfl, hv, hr, hb⟩
        exact HK.out _ _ (below_via FC.out hb) hb ⟨y, rfl, hv, hr⟩
      · intro a w F D
        obtain ⟨y2, e2, v2, r2⟩ : GotL [textU ⟨#[97]⟩] (a.tmps.getD 2 undef) w := (D ⟨1, .data⟩ (by simp) rfl _ _ rfl rfl)
        replace e2 := get_of e2 (by simp [undef])
        obtain ⟨y4, e4, v4, r4⟩ : GotL [textU ⟨#[98]⟩] (a.tmps.getD 4 undef) w := (D ⟨3, .data⟩ (by simp) rfl _ _ rfl rfl)
        replace e4 := get_of e4 (by simp [undef])
        obtain ⟨y6, e6, v6, r6⟩ : GotL [textU ⟨#[97]⟩] (a.tmps.getD 6 undef) w := (D ⟨5, .data⟩ (by simp) rfl _ _ rfl rfl)
        replace e6 := get_of e6 (by simp [undef])
        have FC := Lib.hid F.cls
        refine ⟨wanted_none rfl, fun K hK => ?_⟩
        have HK := Lib.hid hK
        clear hK D F
        go_simp
        refine (of_s of29_a v2 v4 v6 r2 r4 r6).mono ?_
        rintro e w' ⟨rfl, hb⟩
        exact HK.out _ _ (below_via FC.out hb) hb rfl
      · intro a w F D
        have e7 : GU 0 (a.tmps.getD 7 undef) w := (D ⟨6, .data⟩ (by simp) rfl _ _ rfl rfl)
        replace e7 := get_of e7 (by simp [undef])
        have FC := Lib.hid F.cls
        refine ⟨wanted_none rfl, fun K hK => ?_⟩
        have HK := Lib.hid hK
        clear hK D F
        go_simp
        exact HK.out _ _ FC.out (Below.refl _ _) rfl
      · intro a w F D
        have e8 : GB true (a.tmps.getD 8 undef) w := (D ⟨7, .data⟩ (by simp) rfl _ _ rfl rfl)
        replace e8 := get_of e8 (by simp [undef])
        have FC := Lib.hid F.cls
        refine ⟨wanted_none rfl, fun K hK => ?_⟩
        have HK := Lib.hid hK
        clear hK D F
        go_simp
        exact HK.out _ _ FC.out (Below.refl _ _) rfl
      · intro a w F D
        have dg : GB true (a.tmps.getD 9 undef) w := D ⟨8, .guard⟩ (by simp) rfl _ _ rfl rfl
        have hg := gotk_new w [⟨#[97]⟩]
        have FC := Lib.hid F.cls
        refine ⟨wanted_some rfl rfl (get_of dg (by simp [undef])), fun K hK => ?_⟩
        have HK := Lib.hid hK
        clear hK D F dg
        replace hg := Lib.hid hg
        go_simp
        exact HK.out _ _ (below_al FC.out) (below_al (Below.refl _ _)) hg.out
      · intro a w F D
        have dg : GB true (a.tmps.getD 9 undef) w := D ⟨8, .guard⟩ (by simp) rfl _ _ rfl rfl
        obtain ⟨k10, e10, hK10⟩ : GotK [⟨#[97]⟩] (a.tmps.getD 10 undef) w := (D ⟨9, .data⟩ (by simp) rfl _ _ rfl rfl)
        replace e10 := get_of e10 (by simp [undef])
        have HC := Lib.hid (words_s hK10 rfl rfl)
        clear hK10
        have FC := Lib.hid F.cls
        refine ⟨wanted_some rfl rfl (get_of dg (by simp [undef])), fun K hK => ?_⟩
        have HK := Lib.hid hK
        clear hK D F dg
        go_simp
        refine (HC.out).mono ?_
        rintro e w' ⟨y, rfl, hv, hr, hb⟩
        exact HK.out _ _ (below_via FC.out hb) hb ⟨y, rfl, hv, hr⟩
      · intro a w F D
        have dg : GB true (a.tmps.getD 9 undef) w := D ⟨8, .guard⟩ (by simp) rfl _ _ rfl rfl
        have hg := gotk_new w [⟨#[98]⟩]
        have FC := Lib.hid F.cls
        refine ⟨wanted_some rfl rfl (get_of dg (by simp [undef])), fun K hK => ?_⟩
        have HK := Lib.hid hK
        clear hK D F dg
        replace hg := Lib.hid hg
        go_simp
        exact HK.out _ _ (below_al FC.out) (below_al (Below.refl _ _)) hg.out
      · intro a w F D
        have dg : GB true (a.tmps.getD 9 undef) w := D ⟨8, .guard⟩ (by simp) rfl _ _ rfl rfl
        obtain ⟨k12, e12, hK12⟩ : GotK [⟨#[98]⟩] (a.tmps.getD 12 undef) w := (D ⟨11, .data⟩ (by simp) rfl _ _ rfl rfl)
        replace e12 := get_of e12 (by simp [undef])
        have HC := Lib.hid (words_s hK12 rfl rfl)
        clear hK12
        have FC := Lib.hid F.cls
        refine ⟨wanted_some rfl rfl (get_of dg (by simp [undef])), fun K hK => ?_⟩
        have HK := Lib.hid hK
        clear hK D F dg
        go_simp
        refine (HC.out).mono ?_
        rintro e w' ⟨y, rfl, hv, hr, hb⟩
        exact HK.out _ _ (below_via FC.out hb) hb ⟨y, rfl, hv, hr⟩
      · intro a w F D
        have dg : GB true (a.tmps.getD 9 undef) w := D ⟨8, .guard⟩ (by simp) rfl _ _ rfl rfl
        have hg := gotk_new w [⟨#[99]⟩]
        have FC := Lib.hid F.cls
        refine ⟨wanted_some rfl rfl (get_of dg (by simp [undef])), fun K hK => ?_⟩
        have HK := Lib.hid hK
        clear hK D F dg
        replace hg := Lib.hid hg
        go_simp
        exact HK.out _ _ (below_al FC.out) (below_al (Below.refl _ _)) hg.out
      · intro a w F D
        have dg : GB true (a.tmps.getD 9 undef) w := D ⟨8, .guard⟩ (by simp) rfl _ _ rfl rfl
        obtain ⟨k14, e14, hK14⟩ : GotK [⟨#[99]⟩] (a.tmps.getD 14 undef) w := (D ⟨13, .data⟩ (by simp) rfl _ _ rfl rfl)
        replace e14 := get_of e14 (by simp [undef])
        have HC := Lib.hid (words_s hK14 rfl rfl)
        clear hK14
        have FC := Lib.hid F.cls
        refine ⟨wanted_some rfl rfl (get_of dg (by simp [undef])), fun K hK => ?_⟩
        have HK := Lib.hid hK
        clear hK D F dg
        go_simp
        refine (HC.out).mono ?_
        rintro e w' ⟨y, rfl, hv, hr, hb⟩
        exact HK.out _ _ (below_via FC.out hb) hb ⟨y, rfl, hv, hr⟩
      · intro a w F D
        have dg : GB true (a.tmps.getD 9 undef) w := D ⟨8, .guard⟩ (by simp) rfl _ _ rfl rfl
        obtain ⟨y11, e11, v11, r11⟩ : GotL [textU ⟨#[97]⟩] (a.tmps.getD 11 undef) w := (D ⟨10, .data⟩ (by simp) rfl _ _ rfl rfl)
        replace e11 := get_of e11 (by simp [undef])
        obtain ⟨y13, e13, v13, r13⟩ : GotL [textU ⟨#[98]⟩] (a.tmps.getD 13 undef) w := (D ⟨12, .data⟩ (by simp) rfl _ _ rfl rfl)
        replace e13 := get_of e13 (by simp [undef])
        obtain ⟨y15, e15, v15, r15⟩ : GotL [textU ⟨#[99]⟩] (a.tmps.getD 15 undef) w := (D ⟨14, .data⟩ (by simp) rfl _ _ rfl rfl)
        replace e15 := get_of e15 (by simp [undef])
        have FC := Lib.hid F.cls
        refine ⟨wanted_some rfl rfl (get_of dg (by simp [undef])), fun K hK => ?_⟩
        have HK := Lib.hid hK
        clear hK D F dg
        go_simp
        refine (of_s of29_b v11 v13 v15 r11 r13 r15).mono ?_
        rintro e w' ⟨rfl, hb⟩
        exact HK.out _ _ (below_via FC.out hb) hb rfl
      · intro a w F D
        have dg : GB true (a.tmps.getD 9 undef) w := D ⟨8, .guard⟩ (by simp) rfl _ _ rfl rfl
        have e16 : GU 3 (a.tmps.getD 16 undef) w := (D ⟨15, .data⟩ (by simp) rfl _ _ rfl rfl)
        replace e16 := get_of e16 (by simp [undef])
        have FC := Lib.hid F.cls
        refine ⟨wanted_some rfl rfl (get_of dg (by simp [undef])), fun K hK => ?_⟩
        have HK := Lib.hid hK
        clear hK D F dg
        go_simp
        exact HK.out _ _ FC.out (Below.refl _ _) rfl
      · intro a w F D
        have e9 : GB true (a.tmps.getD 9 undef) w := (D ⟨8, .data⟩ (by simp) rfl _ _ rfl rfl)
        replace e9 := get_of e9 (by simp [undef])
        have e17 : GB true (a.tmps.getD 17 undef) w := (D ⟨16, .data⟩ (by simp) rfl _ _ rfl rfl)
        replace e17 := get_of e17 (by simp [undef])
        have FC := Lib.hid F.cls
        refine ⟨wanted_none rfl, fun K hK => ?_⟩
        have HK := Lib.hid hK
        clear hK D F
        go_simp
        exact HK.out _ _ FC.out (Below.refl _ _) rfl
      · intro a w F D
        have e18 : GB true (a.tmps.getD 18 undef) w := (D ⟨17, .data⟩ (by simp) rfl _ _ rfl rfl)
        replace e18 := get_of e18 (by simp [undef])
        have FC := Lib.hid F.cls
        refine ⟨wanted_none rfl, fun K hK => ?_⟩
        have HK := Lib.hid hK
        clear hK D F
        go_simp
        exact HK.out _ _ FC.out (Below.refl _ _) rfl
      · intro a w F D
        have dg : GB true (a.tmps.getD 19 undef) w := D ⟨18, .guard⟩ (by simp) rfl _ _ rfl rfl
        have hg := gotk_new w [⟨#[49]⟩, ⟨#[50]⟩, ⟨#[51]⟩]
        have FC := Lib.hid F.cls
        refine ⟨wanted_some rfl rfl (get_of dg (by simp [undef])), fun K hK => ?_⟩
        have HK := Lib.hid hK
        clear hK D F dg
        replace hg := Lib.hid hg
        go_simp
        exact HK.out _ _ (below_al FC.out) (below_al (Below.refl _ _)) hg.out
      · intro a w F D
        have dg : GB true (a.tmps.getD 19 undef) w := D ⟨18, .guard⟩ (by simp) rfl _ _ rfl rfl
        obtain ⟨k20, e20, hK20⟩ : GotK [⟨#[49]⟩, ⟨#[50]⟩, ⟨#[51]⟩] (a.tmps.getD 20 undef) w := (D ⟨19, .data⟩ (by simp) rfl _ _ rfl rfl)
        replace e20 := get_of e20 (by simp [undef])
        have HC := Lib.hid (nested_s hK20 rfl rfl)
        clear hK20
        have FC := Lib.hid F.cls
        refine ⟨wanted_some rfl rfl (get_of dg (by simp [undef])), fun K hK => ?_⟩
        have HK := Lib.hid hK
        clear hK D F dg
        go_simp
        refine (HC.out).mono ?_
        rintro e w' ⟨y, rfl, hv, hr, hb⟩
        exact HK.out _ _ (below_via FC.out hb) hb ⟨y, rfl, hv, hr⟩
      · intro a w F D
        have dg : GB true (a.tmps.getD 19 undef) w := D ⟨18, .guard⟩ (by simp) rfl _ _ rfl rfl
        have hg := gotk_new w [⟨#[49]⟩, ⟨#[50]⟩, ⟨#[52]⟩]
        have FC := Lib.hid F.cls
        refine ⟨wanted_some rfl rfl (get_of dg (by simp [undef])), fun K hK => ?_⟩
        have HK := Lib.hid hK
        clear hK D F dg
        replace hg := Lib.hid hg
        go_simp
        exact HK.out _ _ (below_al FC.out) (below_al (Below.refl _ _)) hg.out
      · intro a w F D
        have dg : GB true (a.tmps.getD 19 undef) w := D ⟨18, .guard⟩ (by simp) rfl _ _ rfl rfl
        obtain ⟨k22, e22, hK22⟩ : GotK [⟨#[49]⟩, ⟨#[50]⟩, ⟨#[52]⟩] (a.tmps.getD 22 undef) w := (D ⟨21, .data⟩ (by simp) rfl _ _ rfl rfl)
        replace e22 := get_of e22 (by simp [undef])
        have HC := Lib.hid (nested_s hK22 rfl rfl)
        clear hK22
        have FC := Lib.hid F.cls
        refine ⟨wanted_some rfl rfl (get_of dg (by simp [undef])), fun K hK => ?_⟩
        have HK := Lib.hid hK
        clear hK D F dg
        go_simp
        refine (HC.out).mono ?_
        rintro e w' ⟨y, rfl, hv, hr, hb⟩
        exact HK.out _ _ (below_via FC.out hb) hb ⟨y, rfl, hv, hr⟩
      · intro a w F D
        have dg : GB true (a.tmps.getD 19 undef) w := D ⟨18, .guard⟩ (by simp) rfl _ _ rfl rfl
        have hg := gotk_new w [⟨#[48]⟩, ⟨#[50]⟩, ⟨#[51]⟩]
        have FC := Lib.hid F.cls
        refine ⟨wanted_some rfl rfl (get_of dg (by simp [undef])), fun K hK => ?_⟩
        have HK := Lib.hid hK
        clear hK D F dg
        replace hg := Lib.hid hg
        go_simp
        exact HK.out _ _ (below_al FC.out) (below_al (Below.refl _ _)) hg.out
      · intro a w F D
        have dg : GB true (a.tmps.getD 19 undef) w := D ⟨18, .guard⟩ (by simp) rfl _ _ rfl rfl
        obtain ⟨k24, e24, hK24⟩ : GotK [⟨#[48]⟩, ⟨#[50]⟩, ⟨#[51]⟩] (a.tmps.getD 24 undef) w := (D ⟨23, .data⟩ (by simp) rfl _ _ rfl rfl)
        replace e24 := get_of e24 (by simp [undef])
        have HC := Lib.hid (nested_s hK24 rfl rfl)
        clear hK24
        have FC := Lib.hid F.cls
        refine ⟨wanted_some rfl rfl (get_of dg (by simp [undef])), fun K hK => ?_⟩
        have HK := Lib.hid hK
        clear hK D F dg
        go_simp
        refine (HC.out).mono ?_
        rintro e w' ⟨y, rfl, hv, hr, hb⟩
        exact HK.out _ _ (below_via FC.out hb) hb ⟨y, rfl, hv, hr⟩
      · intro a w F D
        have dg : GB true (a.tmps.getD 19 undef) w := D ⟨18, .guard⟩ (by simp) rfl _ _ rfl rfl
        obtain ⟨y21, e21, v21, r21⟩ : GotL [listV [textU ⟨#[49]⟩, textU ⟨#[50]⟩, textU ⟨#[51]⟩]] (a.tmps.getD 21 undef) w := (D ⟨20, .data⟩ (by simp) rfl _ _ rfl rfl)
        replace e21 := get_of e21 (by simp [undef])
        obtain ⟨y23, e23, v23, r23⟩ : GotL [listV [textU ⟨#[49]⟩, textU ⟨#[50]⟩, textU ⟨#[52]⟩]] (a.tmps.getD 23 undef) w := (D ⟨22, .data⟩ (by simp) rfl _ _ rfl rfl)
        replace e23 := get_of e23 (by simp [undef])
        obtain ⟨y25, e25, v25, r25⟩ : GotL [listV [textU ⟨#[48]⟩, textU ⟨#[50]⟩, textU ⟨#[51]⟩]] (a.tmps.getD 25 undef) w := (D ⟨24, .data⟩ (by simp) rfl _ _ rfl rfl)
        replace e25 := get_of e25 (by simp [undef])
        have FC := Lib.hid F.cls
        refine ⟨wanted_some rfl rfl (get_of dg (by simp [undef])), fun K hK => ?_⟩
        have HK := Lib.hid hK
        clear hK D F dg
        go_simp
        refine (of_s of29_c v21 v23 v25 r21 r23 r25).mono ?_
        rintro e w' ⟨rfl, hb⟩
        exact HK.out _ _ (below_via FC.out hb) hb rfl
      · intro a w F D
        have dg : GB true (a.tmps.getD 19 undef) w := D ⟨18, .guard⟩ (by simp) rfl _ _ rfl rfl
        have e26 : GU 2 (a.tmps.getD 26 undef) w := (D ⟨25, .data⟩ (by simp) rfl _ _ rfl rfl)
        replace e26 := get_of e26 (by simp [undef])
        have FC := Lib.hid F.cls
        refine ⟨wanted_some rfl rfl (get_of dg (by simp [undef])), fun K hK => ?_⟩
        have HK := Lib.hid hK
        clear hK D F dg
        go_simp
        exact HK.out _ _ FC.out (Below.refl _ _) rfl
      · intro a w F D
        have e19 : GB true (a.tmps.getD 19 undef) w := (D ⟨18, .data⟩ (by simp) rfl _ _ rfl rfl)
        replace e19 := get_of e19 (by simp [undef])
        have e27 : GB true (a.tmps.getD 27 undef) w := (D ⟨26, .data⟩ (by simp) rfl _ _ rfl rfl)
        replace e27 := get_of e27 (by simp [undef])
        have FC := Lib.hid F.cls
        refine ⟨wanted_none rfl, fun K hK => ?_⟩
        have HK := Lib.hid hK
        clear hK D F
        go_simp
        exact HK.out _ _ FC.out (Below.refl _ _) rfl
      · intro a w F D
        have e28 : GB true (a.tmps.getD 28 undef) w := (D ⟨27, .data⟩ (by simp) rfl _ _ rfl rfl)
        replace e28 := get_of e28 (by simp [undef])
        have FC := Lib.hid F.cls
        refine ⟨wanted_none rfl, fun K hK => ?_⟩
        have HK := Lib.hid hK
        clear hK D F
        go_simp
        exact HK.out _ _ FC.out (Below.refl _ _) rfl
      · intro a w F D
        have dg : GB true (a.tmps.getD 29 undef) w := D ⟨28, .guard⟩ (by simp) rfl _ _ rfl rfl
        have hg := gotk_new w [⟨#[97]⟩]
        have FC := Lib.hid F.cls
        refine ⟨wanted_some rfl rfl (get_of dg (by simp [undef])), fun K hK => ?_⟩
        have HK := Lib.hid hK
        clear hK D F dg
        replace hg := Lib.hid hg
        go_simp
        exact HK.out _ _ (below_al FC.out) (below_al (Below.refl _ _)) hg.out
      · intro a w F D
        have dg : GB true (a.tmps.getD 29 undef) w := D ⟨28, .guard⟩ (by simp) rfl _ _ rfl rfl
        obtain ⟨k30, e30, hK30⟩ : GotK [⟨#[97]⟩] (a.tmps.getD 30 undef) w := (D ⟨29, .data⟩ (by simp) rfl _ _ rfl rfl)
        replace e30 := get_of e30 (by simp [undef])
        have HC := Lib.hid (words_s hK30 rfl rfl)
        clear hK30
        have FC := Lib.hid F.cls
        refine ⟨wanted_some rfl rfl (get_of dg (by simp [undef])), fun K hK => ?_⟩
        have HK := Lib.hid hK
        clear hK D F dg
        go_simp
        refine (HC.out).mono ?_
        rintro e w' ⟨y, rfl, hv, hr, hb⟩
        exact HK.out _ _ (below_via FC.out hb) hb ⟨y, rfl, hv, hr⟩
      · intro a w F D
        have dg : GB true (a.tmps.getD 29 undef) w := D ⟨28, .guard⟩ (by simp) rfl _ _ rfl rfl
        have hg := gotk_new w [⟨#[97]⟩, ⟨#[98]⟩]
        have FC := Lib.hid F.cls
        refine ⟨wanted_some rfl rfl (get_of dg (by simp [undef])), fun K hK => ?_⟩
        have HK := Lib.hid hK
        clear hK D F dg
        replace hg := Lib.hid hg
        go_simp
        exact HK.out _ _ (below_al FC.out) (below_al (Below.refl _ _)) hg.out
      · intro a w F D
        have dg : GB true (a.tmps.getD 29 undef) w := D ⟨28, .guard⟩ (by simp) rfl _ _ rfl rfl
        obtain ⟨k32, e32, hK32⟩ : GotK [⟨#[97]⟩, ⟨#[98]⟩] (a.tmps.getD 32 undef) w := (D ⟨31, .data⟩ (by simp) rfl _ _ rfl rfl)
        replace e32 := get_of e32 (by simp [undef])
        have HC := Lib.hid (words_s hK32 rfl rfl)
        clear hK32
        have FC := Lib.hid F.cls
        refine ⟨wanted_some rfl rfl (get_of dg (by simp [undef])), fun K hK => ?_⟩
        have HK := Lib.hid hK
        clear hK D F dg
        go_simp
        refine (HC.out).mono ?_
        rintro e w' ⟨y, rfl, hv, hr, hb⟩
        exact HK.out _ _ (below_via FC.out hb) hb ⟨y, rfl, hv, hr⟩
      · intro a w F D
        have dg : GB true (a.tmps.getD 29 undef) w := D ⟨28, .guard⟩ (by simp) rfl _ _ rfl rfl
        obtain ⟨y31, e31, v31, r31⟩ : GotL [textU ⟨#[97]⟩] (a.tmps.getD 31 undef) w := (D ⟨30, .data⟩ (by simp) rfl _ _ rfl rfl)
        replace e31 := get_of e31 (by simp [undef])
        obtain ⟨y33, e33, v33, r33⟩ : GotL [textU ⟨#[97]⟩, textU ⟨#[98]⟩] (a.tmps.getD 33 undef) w := (D ⟨32, .data⟩ (by simp) rfl _ _ rfl rfl)
        replace e33 := get_of e33 (by simp [undef])
        have FC := Lib.hid F.cls
        refine ⟨wanted_some rfl rfl (get_of dg (by simp [undef])), fun K hK => ?_⟩
        have HK := Lib.hid hK
        clear hK D F dg
        go_simp
        refine (rest_s rest29 rfl v31 v33 r31 r33).mono ?_
        rintro e w' ⟨v, rfl, hv, hb⟩
        exact HK.out _ _ (below_via FC.out hb) hb hv
      · intro a w F D
        have dg : GB true (a.tmps.getD 29 undef) w := D ⟨28, .guard⟩ (by simp) rfl _ _ rfl rfl
        obtain ⟨a34, c34, e34⟩ : GN 1 (a.tmps.getD 34 undef) w := (D ⟨33, .data⟩ (by simp) rfl _ _ rfl rfl)
        replace e34 := get_of e34 (by simp [undef])
        have FC := Lib.hid F.cls
        refine ⟨wanted_some rfl rfl (get_of dg (by simp [undef])), fun K hK => ?_⟩
        have HK := Lib.hid hK
        clear hK D F dg
        go_simp
        exact HK.out _ _ FC.out (Below.refl _ _) rfl
      · intro a w F D
        have dg : GB true (a.tmps.getD 29 undef) w := D ⟨28, .guard⟩ (by simp) rfl _ _ rfl rfl
        have e35 : GI 1 (a.tmps.getD 35 undef) w := (D ⟨34, .data⟩ (by simp) rfl _ _ rfl rfl)
        replace e35 := get_of e35 (by simp [undef])
        have FC := Lib.hid F.cls
        refine ⟨wanted_some rfl rfl (get_of dg (by simp [undef])), fun K hK => ?_⟩
        have HK := Lib.hid hK
        clear hK D F dg
        go_simp
        exact HK.out _ _ FC.out (Below.refl _ _) rfl
      · intro a w F D
        have e29 : GB true (a.tmps.getD 29 undef) w := (D ⟨28, .data⟩ (by simp) rfl _ _ rfl rfl)
        replace e29 := get_of e29 (by simp [undef])
        have e36 : GB true (a.tmps.getD 36 undef) w := (D ⟨35, .data⟩ (by simp) rfl _ _ rfl rfl)
        replace e36 := get_of e36 (by simp [undef])
        have FC := Lib.hid F.cls
        refine ⟨wanted_none rfl, fun K hK => ?_⟩
        have HK := Lib.hid hK
        clear hK D F
        go_simp
        exact HK.out _ _ FC.out (Below.refl _ _) rfl
      · intro a w F D
        have e37 : GB true (a.tmps.getD 37 undef) w := (D ⟨36, .data⟩ (by simp) rfl _ _ rfl rfl)
        replace e37 := get_of e37 (by simp [undef])
        have FC := Lib.hid F.cls
        refine ⟨wanted_none rfl, fun K hK => ?_⟩
        have HK := Lib.hid hK
        clear hK D F
        go_simp
        exact HK.out _ _ FC.out (Below.refl _ _) rfl
  case rest =>
   intro e a6 w6 h
   cases e with
   | normal =>
    obtain ⟨g1, g2, g3⟩ := h
    obtain ⟨tm6, df6⟩ := a6
    simp only at g1 g2
    subst g2
    go_wp2_with fail
    go_ret
    exact ⟨by rw [g1], g3⟩
   | ret => exact h.elim
   | exit _ => exact h.elim
   | goto _ => exact h.elim
   | panic _ => exact h.elim
   | outgrown => exact h.elim
end Go.Proofs.YtmhkacafilpliaaGreat

namespace Go.Proofs.YtmhkacafilpliaaGreat
open Go.RowKit Go.Sort Go.Shelf Go.BigFrame

theorem sameV_self {v : Val} (h : v.may = true) : sameV v v = true := by
  have hw : v.within 256 = true := by rw [Val.may_eq]; exact h
  rw [sameV, h, (cmpV_zero 256 v v hw hw).2 rfl]
  rfl
theorem eqlW_self : ∀ {l : List Val}, (∀ v ∈ l, v.may = true) → eqlW sameV l l = true
  | [], _ => rfl
  | v :: l, h => by rw [eqlW, sameV_self (h v List.mem_cons_self), eqlW_self fun x hx => h x (List.mem_cons_of_mem _ hx)]; rfl
theorem eqlW_sym : ∀ (a b : List Val), eqlW sameV a b = eqlW sameV b a
  | [], [] => rfl
  | [], _ :: _ => rfl
  | _ :: _, [] => rfl
  | u :: a, v :: b => by rw [eqlW, eqlW, sameV_sym u v, eqlW_sym a b]
theorem pick_turn (b l r : List Val) : (pickO b l r == 2) = (pickO b r l == 2) ∧ (pickO b l r == 3) = (pickO b r l == 3) := by
  rw [pickO, pickO, eqlW_sym r l, Bool.and_comm (eqlW areB b r)]
  generalize eqlW sameV l r = p
  generalize eqlW sameV b l = q
  generalize eqlW sameV b r = s
  generalize (eqlW areB b l && eqlW areB b r) = t
  cases p <;> cases q <;> cases s <;> cases t <;> decide
theorem pick_both {b l : List Val} (h : ∀ v ∈ l, v.may = true) : pickO b l l = 0 := by rw [pickO, eqlW_self h]; rfl
theorem pick_left {b l : List Val} (h : ∀ v ∈ b, v.may = true) : pickO b l b = 0 := by
  rw [pickO, eqlW_sym b l, eqlW_self h]
  cases eqlW sameV l b <;> rfl
theorem pick_right {b r : List Val} (h : ∀ v ∈ b, v.may = true) : pickO b b r = if eqlW sameV b r then 0 else 1 := by
  rw [pickO, eqlW_self h]
  rfl
theorem restN_get {L R : List Val} {n k i : Nat} (h : (restN L R n)[k]? = some i) : i < n ∧ ∃ v, R[i]? = some v ∧ hasV v L = false := by
  have hm := List.mem_of_getElem? h
  rw [restN, List.mem_filter, List.mem_range] at hm
  refine ⟨hm.1, ?_⟩
  cases hr : R[i]? with
  | none => rw [hr] at hm; cases hm.2
  | some v => rw [hr] at hm; exact ⟨v, rfl, by simpa using hm.2⟩
theorem restN_rise {L R : List Val} {n k i j : Nat} (h : (restN L R n)[k]? = some i) (h' : (restN L R n)[k + 1]? = some j) : i < j := by
  have hs : (restN L R n).Pairwise (· < ·) := List.Pairwise.filter _ List.pairwise_lt_range
  obtain ⟨h1, rfl⟩ := List.getElem?_eq_some_iff.1 h
  obtain ⟨h2, rfl⟩ := List.getElem?_eq_some_iff.1 h'
  exact List.pairwise_iff_getElem.1 hs k (k + 1) h1 h2 (Nat.lt_succ_self k)
theorem restN_mem {L R : List Val} {n i : Nat} {v : Val} (hi : i < n) (hv : R[i]? = some v) (hh : hasV v L = false) : i ∈ restN L R n := by
  rw [restN, List.mem_filter, List.mem_range]
  exact ⟨hi, by rw [hv]; simp [hh]⟩
/-- The rest laid behind. -/
def moreV (L R : List Val) (P : List Nat) : List Val := L ++ P.filterMap fun i => R[i]?
theorem more_has {L R : List Val} (hR : ∀ v ∈ R, v.may = true) {i : Nat} {v : Val} (hv : R[i]? = some v) : hasV v (moreV L R (restN L R R.length)) = true := by
  rw [hasV, List.any_eq_true]
  cases hh : hasV v L with
  | true =>
    rw [hasV, List.any_eq_true] at hh
    obtain ⟨x, hx, hs⟩ := hh
    exact ⟨x, List.mem_append.2 (.inl hx), hs⟩
  | false =>
    have hi := (List.getElem?_eq_some_iff.1 hv).1
    exact ⟨v, List.mem_append.2 (.inr (List.mem_filterMap.2 ⟨i, restN_mem hi hv hh, hv⟩)), sameV_self (hR v (List.mem_of_getElem? hv))⟩
theorem restN_nil {L R : List Val} (h : ∀ (i : Nat) (v : Val), R[i]? = some v → hasV v L = true) (n : Nat) (hn : n ≤ R.length) : restN L R n = [] := by
  induction n with
  | zero => rfl
  | succ n ih =>
    have hk : R[n]? = some R[n] := List.getElem?_eq_getElem (by omega)
    rw [restN_no hk (h n _ hk), ih (by omega)]
theorem restN_more {L R : List Val} (hR : ∀ v ∈ R, v.may = true) : restN (moreV L R (restN L R R.length)) R R.length = [] := restN_nil (fun _ _ h => more_has hR h) _ (Nat.le_refl _)
theorem restN_self {R : List Val} (hR : ∀ v ∈ R, v.may = true) : restN R R R.length = [] := restN_nil (fun _ _ h => hasV_yes h (sameV_self (hR _ (List.mem_of_getElem? h)))) _ (Nat.le_refl _)
theorem restN_all (R : List Val) : ∀ n, n ≤ R.length → (restN [] R n).length = n
  | 0, _ => rfl
  | n + 1, h => by
    have hk : R[n]? = some R[n] := List.getElem?_eq_getElem (by omega)
    rw [restN_yes hk rfl, List.length_append, restN_all R n (by omega)]
    rfl
theorem la_at29 {w : World} {lo hi : Nat} {a : Option Addr} {l : List LA} (h : SlE LA.enc 1 w lo hi a l) {k : Nat} {y : LA} (hk : l[k]? = some y) :
    ∃ b off, a = some ⟨b, off, none⟩ ∧ lo ≤ b ∧ b < hi ∧ b < w.heap.size ∧ w.cell? ⟨b, off + k, none⟩ = some (.slice y.a y.l.length y.c) := by
  have hl : k < l.length := (List.getElem?_eq_some_iff.1 hk).1
  obtain ⟨b, off, e, g1, g2, g3, g4⟩ := h (by omega)
  have c := g4 k y hk
  exact ⟨b, off, e, g1, g2, g3, by simpa using c 0 _ rfl⟩
set_option maxRecDepth 100000 in
set_option maxHeartbeats 3200000 in
theorem great29_c (w : World) (A : Option Addr) (c : Nat) (L : List LA) (h : SlE LA.enc 1 w 0 w.heap.size A L) (hL : ∀ q ∈ L, q.Rd w) (hl : L.length ≤ 1048576) : Calls Tryz.prog 16 #[.slice A L.length c] w (RetB w) := by
  have H := Lib.hid h
  have HL := Lib.hid hL
  clear h hL
  go_enter Tryz.func16, Tryz.ntmps16
  go_wp2_with fail
  go_loopw [3, 4, 5] (fun s3 s4 _ wr => ∃ n i : Nat, i ≤ L.length ∧ s3 = .int .i64 n ∧ s4 = .int .i64 i ∧ n ≤ 1050079 ∧ Below w.heap.size w wr) (fun _ s4 _ _ => L.length - (intOf s4).toNat)
  case atStart => exact ⟨0, 0, Nat.zero_le _, rfl, rfl, by omega, Below.refl _ _⟩
  case round =>
    obtain ⟨n, i, hi, rfl, rfl, hn, hb⟩ := hrel
    by_cases hlt : i < L.length
    · have hlt' : (i : Int) < (L.length : Int) := by omega
      have hk : L[i]? = some L[i] := List.getElem?_eq_getElem hlt
      have hmem : L[i] ∈ L := List.getElem_mem hlt
      generalize L[i] = q at *
      obtain ⟨b, off, hla, -, hb1, hb2, h0⟩ := la_at29 H.out hk
      have hq := HL.out q hmem
      have HQ := Lib.hid hq
      have hqs := hq.sl
      have hql := hq.len
      have HB := Lib.hid hb
      have HQS := Lib.hid hqs
      clear hq hqs hk hmem hb
      rw [hla]
      go_wp2_with fail
      go_loopw [3, 5] (fun s3 s5 wi => ∃ n k : Nat, k ≤ q.l.length ∧ s3 = .int .i64 n ∧ s5 = .int .i64 k ∧ n ≤ 1050079 ∧ Below w.heap.size w wi) (fun _ s5 _ => q.l.length - (intOf s5).toNat)
      case atStart => exact ⟨n, 0, Nat.zero_le _, rfl, rfl, hn, HB.out⟩
      case round =>
        obtain ⟨n, k, hk, rfl, rfl, hn, hb⟩ := hrel
        have h0' := (hb.cell (p := ⟨_, _, none⟩) hb2).trans h0
        have hbb : b < wr.heap.size := Nat.lt_of_lt_of_le hb2 hb.size
        by_cases hkl : k < q.l.length
        · have hkl' : (k : Int) < (q.l.length : Int) := by omega
          by_cases hn15 : n < 1500
          · have hn15' : (n : Int) < 1500 := by omega
            have hk2 : q.l[k]? = some q.l[k] := List.getElem?_eq_getElem hkl
            have hmem : q.l[k] ∈ q.l := List.getElem_mem hkl
            generalize q.l[k] = y at *
            obtain ⟨b2, off2, hla2, -, hc1, hc2, g0, g1, g2, g3⟩ := vals_at HQS.out hk2
            rw [← hb.cell (p := ⟨_, _, none⟩) hc2] at g0 g1 g2 g3
            have hbb2 : b2 < wr.heap.size := Nat.lt_of_lt_of_le hc2 hb.size
            obtain ⟨hyr, hyw⟩ := HQ.out.kids y hmem
            have HWT := Lib.hid (weight_c y wr (hyr.up hb) hyw)
            have hyw2 : y.v.w ≤ 1048576 := hyw
            have HBB := Lib.hid hb
            rw [hla2] at h0'
            clear hb hk2 hmem hla2 hyr hyw
            have hw1 : IntKind.i64.wrap ((n : Int) + 3) = ((n + 3 : Nat) : Int) := by rw [IntWalk.i64_in _ (by omega)]; omega
            have hwk : IntKind.i64.wrap ((k : Int) + 1) = ((k + 1 : Nat) : Int) := by rw [IntWalk.i64_in _ (by omega)]; omega
            go_wp2_with (go_at_call 37; refine HWT.out.mono ?_; rintro e w2 ⟨r, hr, rfl, hb3⟩
                         have hr2 : r ≤ y.v.w := hr.1
                         have hw2 : IntKind.i64.wrap (((n + 3 : Nat) : Int) + (r : Int)) = ((n + 3 + r : Nat) : Int) := by rw [IntWalk.i64_in _ (by omega)]; omega)
            exact ⟨⟨n + 3 + r, k + 1, by omega, by go_num, by go_num, by omega, below_via HBB.out hb3⟩, by simp [intOf]; omega⟩
          · have hn15' : ¬ (n : Int) < 1500 := by omega
            have hwi : IntKind.i64.wrap ((i : Int) + 1) = ((i + 1 : Nat) : Int) := by rw [IntWalk.i64_in _ (by omega)]; omega
            go_wp2_with fail
            exact ⟨⟨n, i + 1, by omega, rfl, by go_num, hn, hb⟩, by simp [intOf]; omega⟩
        · have hkl' : ¬ (k : Int) < (q.l.length : Int) := by omega
          have hwi : IntKind.i64.wrap ((i : Int) + 1) = ((i + 1 : Nat) : Int) := by rw [IntWalk.i64_in _ (by omega)]; omega
          go_wp2_with fail
          exact ⟨⟨n, i + 1, by omega, rfl, by go_num, hn, hb⟩, by simp [intOf]; omega⟩
    · have hge : ¬ (i : Int) < (L.length : Int) := by omega
      go_wp2_with fail
      go_ret
      exact ⟨_, rfl, hb⟩
def fineB (l : List Val) : Bool := l.all Val.may
theorem fineB_yes {l : List Val} (h : fineB l = true) : ∀ v ∈ l, v.may = true := fun v hv => List.all_eq_true.1 h v hv
theorem fineB_no {l : List Val} {k : Nat} {v : Val} (h : l[k]? = some v) (hm : v.may = false) : fineB l = false := by
  rw [fineB, List.all_eq_false]
  exact ⟨v, List.mem_of_getElem? h, by rw [hm]; exact Bool.false_ne_true⟩
theorem fineB_all {l : List Val} (h : ∀ (k : Nat) (v : Val), l[k]? = some v → v.may = true) : fineB l = true := by
  rw [fineB, List.all_eq_true]
  intro v hv
  obtain ⟨k, hk⟩ := List.mem_iff_getElem?.1 hv
  exact h k v hk
set_option maxRecDepth 100000 in
set_option maxHeartbeats 3200000 in
theorem fine29_c (w : World) (p : LA) (hp : p.Rd w) : Calls Tryz.prog 24 #[.slice p.a p.l.length p.c] w (Ret (.bool (fineB p.v)) w) := by
  have HP := Lib.hid hp
  have hpl := hp.len
  obtain ⟨r, hr⟩ : ∃ r, r = fineB p.v := ⟨_, rfl⟩
  have HR := Lib.hid hr
  rw [← hr]
  clear hp hr
  go_enter Tryz.func24, Tryz.ntmps24
  go_wp2_with fail
  go_loopw [3] (fun s3 wr => ∃ k : Nat, k ≤ p.l.length ∧ s3 = .int .i64 (k : Int) ∧ Hid (Below w.heap.size w wr) ∧ Hid (∀ (j : Nat) (x : Val), j < k → p.v[j]? = some x → x.may = true)) (fun s3 _ => p.l.length - (intOf s3).toNat)
  case atStart => exact ⟨0, Nat.zero_le _, rfl, Lib.hid (Below.refl _ _), Lib.hid (fun j x h => absurd h (Nat.not_lt_zero _))⟩
  case round =>
    obtain ⟨k, hk, rfl, HBR, HYES⟩ := hrel
    by_cases hlt : k < p.l.length
    · have hks : p.l[k]? = some p.l[k] := List.getElem?_eq_getElem hlt
      generalize p.l[k] = x at *
      have hlt' : (k : Int) < (p.l.length : Int) := by omega
      have hk0 : (0 : Int) ≤ (k : Int) := by omega
      have hp0 := HP.out.sl
      obtain ⟨b, off, hla, -, -, -, c0, c1, c2, c3⟩ := vals_at hp0 hks
      have k1 := blkv HBR.out c0
      have k2 := blkv HBR.out c1
      have k3 := blkv HBR.out c2
      have k4 := blkv HBR.out c3
      obtain ⟨rx, wx⟩ := HP.out.kids x (List.mem_of_getElem? hks)
      obtain ⟨s, hs⟩ : ∃ s, s = x.v.may := ⟨_, rfl⟩
      have HC := Lib.hid (may_c wr x (rx.up HBR.out) wx)
      rw [← hs] at HC
      have HS := Lib.hid hs
      have HKS := Lib.hid (show p.v[k]? = some x.v by rw [LA.v, List.getElem?_map, hks]; rfl)
      rw [hla]
      clear c0 c1 c2 c3 hla hks hs hp0 rx
      cases s with
      | true =>
        go_wp2_with (go_at_call 50; (with_reducible refine HC.out.mono ?_); rintro e w5 ⟨rfl, h5⟩)
        exact ⟨⟨k + 1, by omega, by go_num, Lib.hid (below_via HBR.out h5), Lib.hid (fun j y hj hy => by
          by_cases hjk : j < k
          · exact HYES.out j y hjk hy
          · obtain rfl : j = k := by omega
            rw [HKS.out] at hy
            injection hy with hy
            subst hy
            exact HS.out.symm)⟩, by simp [intOf]; omega⟩
      | false =>
        obtain rfl : r = false := by rw [HR.out]; exact fineB_no HKS.out HS.out.symm
        go_wp2_with (go_at_call 50; (with_reducible refine HC.out.mono ?_); rintro e w5 ⟨rfl, h5⟩)
        go_ret
        exact ⟨rfl, below_via HBR.out h5⟩
    · have hkl : k = p.l.length := by omega
      subst hkl
      have hge : ¬ (p.l.length : Int) < (p.l.length : Int) := by omega
      obtain rfl : r = true := by
        rw [HR.out]
        exact fineB_all fun j y hy => HYES.out j y (by have := (List.getElem?_eq_some_iff.1 hy).1; rwa [LA.v, List.length_map] at this) hy
      go_wp2_with fail
      go_ret
      exact ⟨rfl, HBR.out⟩
end Go.Proofs.YtmhkacafilpliaaGreat
