/-
  The merged set of three lists, plain: by the values' keys. No program. Condition: the values may be.
  sets.of: a list's keys, each once, and where each stands first. Conditions: the list lies in memory, its elements' weights are bounded; strconv's table of powers holds what its initialiser lays.
  sets.bad: tells whether one of some lists' elements may not be. Conditions: the lists lie in memory, their elements' weights are bounded.
  The merged set's picks, plain: what Plan hands back, what is taken by it. No program. Condition: the values may be.
-/
import Derived.Test.YtjihepdjcbpgoaaGreatDoorNB
import Derived.Test.YtjihepdjcbpgoaaGreatDoorOA
import Derived.Test.YtjihepdjcbpgoaaGreatDoorKF
import Derived.Test.YtjihepdjcbpgoaaGreatDoorSE
import Derived.Test.YtjihepdjcbpgoaaGreatDoorND
import Derived.Test.YtjihepdjcbpgoaaGreatDoorV4
import Derived.Test.YtjihepdjcbpgoaaGreatDoorTC
import Derived.Deep.Onto
import Derived.Lib.AppendZerosOnto
import Derived.Test.YtjihepdjcbpgoaaGreatDoorRB
namespace Go.Proofs.YtjihepdjcbpgoaaGreatDoor
open Go.RowKit Go.Sort

/-- Texts, each once, as they come first. -/
def firsts : List ByteArray → List ByteArray
  | [] => []
  | s :: l => s :: (firsts l).filter fun t => decide (t ≠ s)
theorem firsts_mem {s : ByteArray} : ∀ {l : List ByteArray}, s ∈ firsts l ↔ s ∈ l
  | [] => by simp [firsts]
  | t :: l => by
    rw [firsts, List.mem_cons, List.mem_filter, firsts_mem (l := l), List.mem_cons]
    by_cases h : s = t <;> simp [h]
theorem firsts_nodup : ∀ l : List ByteArray, (firsts l).Nodup
  | [] => by simp [firsts]
  | t :: l => by
    rw [firsts, List.nodup_cons]
    exact ⟨by simp, (firsts_nodup l).filter _⟩
theorem firsts_snoc (s : ByteArray) : ∀ l : List ByteArray, firsts (l ++ [s]) = if s ∈ l then firsts l else firsts l ++ [s]
  | [] => by simp [firsts]
  | t :: l => by
    rw [List.cons_append, firsts, firsts_snoc s l, firsts]
    by_cases h : s ∈ l
    · rw [if_pos h, if_pos (List.mem_cons_of_mem _ h)]
    · rw [if_neg h, List.filter_append]
      by_cases e : s = t
      · rw [if_pos (by rw [e]; exact List.mem_cons_self)]; simp [e]
      · rw [if_neg (by simp [e, h])]; simp [e]

/-- Keys that all three lists have, in base's order. -/
def bothK (kb kl kr : List ByteArray) : List ByteArray := (firsts kb).filter fun s => decide (s ∈ kl ∧ s ∈ kr)
/-- A list's keys that base has not, and another list's that neither has. -/
def newK (kb kx : List ByteArray) : List ByteArray := (firsts kx).filter fun s => decide (s ∉ kb)
def moreK (kb kx ky : List ByteArray) : List ByteArray := (firsts ky).filter fun s => decide (s ∉ kb ∧ s ∉ kx)
theorem newK_mem {s : ByteArray} {kb kx : List ByteArray} : s ∈ newK kb kx ↔ s ∈ kx ∧ s ∉ kb := by simp [newK, firsts_mem]
theorem moreK_mem {s : ByteArray} {kb kx ky : List ByteArray} : s ∈ moreK kb kx ky ↔ s ∈ ky ∧ s ∉ kb ∧ s ∉ kx := by simp [moreK, firsts_mem]
theorem bothK_mem {s : ByteArray} {kb kl kr : List ByteArray} : s ∈ bothK kb kl kr ↔ s ∈ kb ∧ s ∈ kl ∧ s ∈ kr := by simp [bothK, firsts_mem]
theorem fresh_nodup (kb kx ky : List ByteArray) : (newK kb kx ++ moreK kb kx ky).Nodup := by
  refine List.nodup_append.2 ⟨(firsts_nodup _).filter _, (firsts_nodup _).filter _, fun a ha b hb e => ?_⟩
  subst e
  exact (moreK_mem.1 hb).2.2 (newK_mem.1 ha).1
theorem bothK_nodup (kb kl kr : List ByteArray) : (bothK kb kl kr).Nodup := (firsts_nodup _).filter _
theorem bothK_comm (kb kl kr : List ByteArray) : bothK kb kl kr = bothK kb kr kl := by
  unfold bothK
  congr 1
  funext s
  exact decide_eq_decide.2 And.comm

/-- Keys in the order of values that have them. -/
def KeyLe (s t : ByteArray) : Prop := ∃ a b : Val, a.may = true ∧ b.may = true ∧ a.key = s ∧ b.key = t ∧ cmpV 256 a b ≤ 0
theorem keyLe_anti {s t : ByteArray} (h1 : KeyLe s t) (h2 : KeyLe t s) : s = t := by
  obtain ⟨a, b, ha, hb, rfl, rfl, hab⟩ := h1
  obtain ⟨b', a', hb', ha', eb, ea, hba⟩ := h2
  have ca : cmpV 256 a a' = 0 := (key_same ha ha').1 ea.symm
  have cb : cmpV 256 b b' = 0 := (key_same hb hb').1 eb.symm
  have o := cmpV_ord 256
  have e1 : cmpV 256 b' a' = cmpV 256 b a := by
    rw [← (o.congr_r trivial trivial trivial ca : cmpV 256 b' a = cmpV 256 b' a'), o.anti b' a trivial trivial, ← (o.congr_r trivial trivial trivial cb : cmpV 256 a b = cmpV 256 a b'), ← o.anti b a trivial trivial]
  have e2 := o.anti a b trivial trivial
  exact (key_same ha hb).2 (by omega)
/-- A merged set's keys: what all have, then what is new: in some order. -/
structure Merged (kb kl kr : List ByteArray) (u : Int) (K : List ByteArray) : Prop where
  ex : ∃ F, K = bothK kb kl kr ++ F ∧ F.Perm (newK kb kl ++ moreK kb kl kr) ∧ (u = 1 → F = newK kb kl ++ moreK kb kl kr) ∧ (u = 2 → F = newK kb kr ++ moreK kb kr kl) ∧ (u ≠ 1 → u ≠ 2 → F.Pairwise KeyLe)
theorem fresh_perm (kb kx ky : List ByteArray) : (newK kb kx ++ moreK kb kx ky).Perm (newK kb ky ++ moreK kb ky kx) := by
  refine (List.perm_ext_iff_of_nodup (fresh_nodup _ _ _) (fresh_nodup _ _ _)).2 fun s => ?_
  rw [List.mem_append, List.mem_append, newK_mem, newK_mem, moreK_mem, moreK_mem]
  constructor
  · rintro (⟨h1, h2⟩ | ⟨h1, h2, h3⟩)
    · by_cases h : s ∈ ky
      · exact .inl ⟨h, h2⟩
      · exact .inr ⟨h1, h2, h⟩
    · exact .inl ⟨h1, h2⟩
  · rintro (⟨h1, h2⟩ | ⟨h1, h2, h3⟩)
    · by_cases h : s ∈ kx
      · exact .inl ⟨h, h2⟩
      · exact .inr ⟨h1, h2, h⟩
    · exact .inl ⟨h1, h2⟩
section
variable {kb kl kr K K2 : List ByteArray} {u v : Int}
theorem Merged.mem (h : Merged kb kl kr u K) {s : ByteArray} : s ∈ K ↔ (s ∈ kb ∧ s ∈ kl ∧ s ∈ kr) ∨ (s ∉ kb ∧ (s ∈ kl ∨ s ∈ kr)) := by
  obtain ⟨F, rfl, hp, -⟩ := h.ex
  rw [List.mem_append, bothK_mem, hp.mem_iff, List.mem_append, newK_mem, moreK_mem]
  constructor
  · rintro (h | ⟨h1, h2⟩ | ⟨h1, h2, -⟩)
    · exact .inl h
    · exact .inr ⟨h2, .inl h1⟩
    · exact .inr ⟨h2, .inr h1⟩
  · rintro (h | ⟨h1, h2⟩)
    · exact .inl h
    · by_cases h : s ∈ kl
      · exact .inr (.inl ⟨h, h1⟩)
      · exact .inr (.inr ⟨h2.resolve_left h, h1, h⟩)
theorem Merged.nodup (h : Merged kb kl kr u K) : K.Nodup := by
  obtain ⟨F, rfl, hp, -⟩ := h.ex
  refine List.nodup_append.2 ⟨bothK_nodup _ _ _, hp.nodup_iff.2 (fresh_nodup _ _ _), fun a ha b hb e => ?_⟩
  subst e
  have h1 := (bothK_mem.1 ha).1
  rw [hp.mem_iff, List.mem_append, newK_mem, moreK_mem] at hb
  rcases hb with ⟨-, h2⟩ | ⟨-, h2, -⟩ <;> exact h2 h1
theorem Merged.turned (h : Merged kb kl kr u K) (h2 : Merged kb kr kl v K2) (huv : (u = 1 ∧ v = 2) ∨ (u = 2 ∧ v = 1) ∨ (u ≠ 1 ∧ u ≠ 2 ∧ v ≠ 1 ∧ v ≠ 2)) : K = K2 := by
  obtain ⟨F, rfl, hp, f1, f2, f3⟩ := h.ex
  obtain ⟨G, rfl, gp, g1, g2, g3⟩ := h2.ex
  rw [bothK_comm]
  congr 1
  rcases huv with ⟨h1, h2⟩ | ⟨h1, h2⟩ | ⟨h1, h2, h3, h4⟩
  · rw [f1 h1, g2 h2]
  · rw [f2 h1, g1 h2]
  · exact List.Perm.eq_of_pairwise (fun a b _ _ h1 h2 => keyLe_anti h1 h2) (f3 h1 h2) (g3 h3 h4) (hp.trans ((fresh_perm _ _ _).trans gp.symm))
theorem newK_self (kb : List ByteArray) : newK kb kb = [] := by
  refine List.eq_nil_iff_forall_not_mem.2 fun s h => ?_
  exact (newK_mem.1 h).2 (newK_mem.1 h).1
theorem moreK_self (kb kx : List ByteArray) : moreK kb kx kx = [] := by
  refine List.eq_nil_iff_forall_not_mem.2 fun s h => ?_
  exact (moreK_mem.1 h).2.2 (moreK_mem.1 h).1
theorem moreK_base (kb kx : List ByteArray) : moreK kb kb kx = newK kb kx := by
  unfold moreK newK
  congr 1
  funext s
  exact decide_eq_decide.2 (by simp)
theorem moreK_base2 (kb kx : List ByteArray) : moreK kb kx kb = [] := by
  refine List.eq_nil_iff_forall_not_mem.2 fun s h => ?_
  exact (moreK_mem.1 h).2.1 (moreK_mem.1 h).1
/-- Left is base, or both are right: one set. -/
theorem Merged.sides (h : Merged kb kb kr u K) (h2 : Merged kb kr kr u K2) : K = K2 := by
  obtain ⟨F, rfl, hp, f1, f2, f3⟩ := h.ex
  obtain ⟨G, rfl, gp, g1, g2, g3⟩ := h2.ex
  have e : bothK kb kb kr = bothK kb kr kr := by
    unfold bothK
    refine List.filter_congr fun s hs => ?_
    have := firsts_mem.1 hs
    simp [this]
  rw [e]
  congr 1
  rw [newK_self, moreK_base, List.nil_append] at hp f1
  rw [moreK_base2, List.append_nil] at f2
  rw [moreK_self, List.append_nil] at gp g1 g2
  by_cases h1 : u = 1
  · rw [f1 h1, g1 h1]
  by_cases h2 : u = 2
  · rw [f2 h2, g2 h2]
  exact List.Perm.eq_of_pairwise (fun a b _ _ h1 h2 => keyLe_anti h1 h2) (f3 h1 h2) (g3 h1 h2) (hp.trans gp.symm)
end
end Go.Proofs.YtjihepdjcbpgoaaGreatDoor

namespace Go.Proofs.YtjihepdjcbpgoaaGreatDoor
open Go.RowKit Go.Sort

theorem idxB_snoc_mem {s t : ByteArray} : ∀ {K : List ByteArray}, s ∈ K → idxB (K ++ [s]) t = idxB K t
  | u :: K, h => by
    simp only [List.cons_append, idxB]
    by_cases e : u = t
    · rw [if_pos e, if_pos e]
    · rw [if_neg e, if_neg e]
      rcases List.mem_cons.1 h with rfl | h
      · by_cases hm : s ∈ K
        · rw [idxB_snoc_mem hm]
        · rw [idxB_snoc_old (Ne.symm e)]
      · rw [idxB_snoc_mem h]
theorem idxB_isSome {s : ByteArray} {K : List ByteArray} : (idxB K s).isSome = decide (s ∈ K) := by
  by_cases h : s ∈ K
  · rw [decide_eq_true h]
    cases e : idxB K s with
    | none => exact absurd h (idxB_none.1 e)
    | some i => rfl
  · rw [decide_eq_false h, idxB_none.2 h]; rfl
section
variable {w w' : World} {B : Nat} {K : List ByteArray}
theorem MapIs.blk (h : MapIs w B K) (hb : w'.heap[B]? = w.heap[B]?) : MapIs w' B K := by
  obtain ⟨n, D, ⟨es, clock, g1, g2⟩, h2, h3⟩ := h
  exact ⟨n, D, ⟨es, clock, hb.trans g1, g2⟩, h2, h3⟩
theorem MapIs.up (h : MapIs w B K) (hb : Below w.heap.size w w') : MapIs w' B K := h.blk (hb.block B h.lt)
theorem MapIs.again (h : MapIs w B K) {s : ByteArray} (hs : s ∈ K) : MapIs w B (K ++ [s]) := by
  obtain ⟨n, D, h1, h2, h3⟩ := h
  exact ⟨n, D, h1, by simp; omega, fun t ht => by rw [idxB_snoc_mem hs]; exact h3 t ht⟩
theorem MapIs.lookE (h : MapIs w B K) (s : ByteArray) (hs : s.size ≤ Go.maxLen) :
    ∃ c : Int, (Instr.lookup 80 (.map (some B)) (.string s) true).run Tryz.prog w = .ok (.tuple #[.int .i64 c, .bool (idxB K s).isSome]) w ∧ ∀ i, idxB K s = some i → c = (i : Nat) := by
  obtain ⟨n, D, h1, h2, h3⟩ := h
  obtain ⟨e1, e2⟩ := h3 s hs
  obtain ⟨v, ps, hrun, hv⟩ := h1.look_ok mapLaw Tryz.underlying80 (mapZero w) (plainElem_int Tryz.underlying3 (by decide)) (WideMaps.keyOf_string_mk Tryz.underlying9 hs)
  obtain ⟨c, rfl, hc, -⟩ := plainElem_int_inv Tryz.underlying3 hv
  refine ⟨c, by rw [hrun, e1], fun i hi => ?_⟩
  have := congrArg Prod.fst hc
  simp only at this
  rw [e2 i hi] at this
  cases this
  rfl
theorem MapIs.putE (h : MapIs w B K) (s : ByteArray) (hs : s.size ≤ Go.maxLen) (hn : s ∉ K) (hl : K.length < 1073741824) :
    ∃ w', (Instr.mapUpdate 80 (.map (some B)) (.string s) (.int .i64 K.length)).run Tryz.prog w = .ok () w' ∧ MapIs w' B (K ++ [s]) ∧ w.grownBy w' (some B) := by
  obtain ⟨n, D, h1, h2, h3⟩ := h
  have hm := h1.isMap
  obtain ⟨w', hrun, hown, hg⟩ := h1.update mapLaw Tryz.underlying80 (by unfold Go.maxLen; omega) (WideMaps.keyOf_string_mk Tryz.underlying9 hs) (plainElem_int (a := (K.length : Int)) Tryz.underlying3 (by simp [Lit.wf, IntKind.min, IntKind.max, IntKind.signed, IntKind.bits]; omega))
  refine ⟨w', hrun, ⟨n + 1, _, hown, by simp; omega, fun t ht => ?_⟩, hg⟩
  by_cases e : t = s
  · subst e
    rw [idxB_snoc_new hn]
    refine ⟨Maps.has_put_same hm (by trivial) _, fun i hi => ?_⟩
    cases hi
    exact Maps.atKey_put_same hm (by trivial) _ _
  · have hne : keyLit t ≠ keyLit s := fun h => e (keyLit_inj h)
    rw [idxB_snoc_old e]
    obtain ⟨e1, e2⟩ := h3 t ht
    exact ⟨by rw [Maps.has_put_other hne]; exact e1, fun i hi => by rw [Maps.atKey_put_other hne]; exact e2 i hi⟩
end
theorem firsts_len : ∀ l : List ByteArray, (firsts l).length ≤ l.length
  | [] => Nat.le_refl _
  | s :: l => by
    have h1 := firsts_len l
    have h2 := List.length_filter_le (fun t => decide (t ≠ s)) (firsts l)
    rw [firsts, List.length_cons, List.length_cons]
    omega
/-- A list's keys. -/
def LA.keys (x : LA) : List ByteArray := x.l.map fun y => y.v.key
def OfPost (K : List ByteArray) (w : World) (e : Ending) (w' : World) : Prop :=
  ∃ (B : Nat) (A : Option Addr) (c : Nat), e = .returned (.tuple #[.map (some B), .slice A (firsts K).length c]) ∧ w.heap.size ≤ B ∧ MapIs w' B K ∧ SlE strE 1 w' w.heap.size w'.heap.size A (firsts K) ∧ Below w.heap.size w w'

set_option maxRecDepth 100000 in
set_option maxHeartbeats 3200000 in
theorem of27_c (w : World) (x : LA) (hx : x.Rd w) (hP : Pow w) : Calls Tryz.prog 65 #[.slice x.a x.l.length x.c] w (OfPost x.keys w) := by
  have hlb := hx.len
  have hkl : x.keys.length = x.l.length := List.length_map ..
  have HK := fun (y : AV) (hy : y ∈ x.l) (W : World) (h : Below w.heap.size w W) => Lib.hid (key_c y W ((hx.kids y hy).1.up h) (hx.kids y hy).2 (hP.below h))
  have HKZ := fun (y : AV) (hy : y ∈ x.l) => Lib.hid (key_size (hx.kids y hy).1 (hx.kids y hy).2)
  have HM := Lib.hid ((MapIs.made w).kept (World.grownBy_alloc _ (.cells #[] 9) none) (by simp))
  have HX := Lib.hid hx
  have HKL := Lib.hid hkl
  have hmm := @run_makeMap Tryz.prog
  clear hx hkl
  go_enter Tryz.func65, Tryz.ntmps65
  go_wp2_with fail
  clear hmm
  go_loopw [5, 15] (fun s5 i wr => ∃ (m : Nat) (a : Option Addr) (c : Nat), m ≤ x.l.length ∧ i = .int .i64 m ∧ s5 = .slice a (firsts (x.keys.take m)).length c ∧ OwnS wr (w.heap.size + 1) (.slice a (firsts (x.keys.take m)).length c) (firsts (x.keys.take m)) ∧ MapIs wr w.heap.size (x.keys.take m) ∧ Below w.heap.size w wr) (fun _ i _ => x.l.length - (intOf i).toNat)
  case atStart => exact ⟨0, some ⟨w.heap.size + 1, 0, none⟩, 0, Nat.zero_le _, by go_num, rfl, ⟨rfl, .inr ⟨w.heap.size + 1, 0, #[], rfl, Nat.le_refl _, by have := heap_alloc_new (w.alloc (.map #[] 0)) (.cells #[] 9); rwa [World.size_alloc] at this, Nat.le_refl _, by simp, rfl, rfl⟩⟩, HM.out, ((Below.refl _ _).alloc (Nat.le_refl _) _).alloc (by simp) _⟩
  case round =>
    obtain ⟨m, a, c, hm, rfl, rfl, hown, hmap, hbw⟩ := hrel
    have hsr := hbw.size
    have hfl := firsts_len (x.keys.take m)
    rw [List.length_take] at hfl
    have HOW := Lib.hid hown
    have HBW := Lib.hid hbw
    have HMA := Lib.hid hmap
    have hmlt := hmap.lt
    clear hown hbw hmap HM
    by_cases hlt : m < x.l.length
    · have hk : x.l[m]? = some x.l[m] := List.getElem?_eq_getElem hlt
      have hmem : x.l[m] ∈ x.l := List.getElem_mem hlt
      generalize x.l[m] = y at hk hmem
      have hks : x.keys[m]? = some y.v.key := by rw [LA.keys, List.getElem?_map, hk]; rfl
      have htk : x.keys.take (m + 1) = x.keys.take m ++ [y.v.key] := by rw [List.take_add_one, hks]; rfl
      have hfs : firsts (x.keys.take (m + 1)) = if y.v.key ∈ x.keys.take m then firsts (x.keys.take m) else firsts (x.keys.take m) ++ [y.v.key] := by rw [htk, firsts_snoc]
      have hkt : (x.keys.take m).length = m := by rw [List.length_take, HKL.out]; omega
      have HKy := HK y hmem
      have hkz := (HKZ y hmem).out
      have hkz2 : y.v.key.size ≤ Go.maxLen := by unfold Go.maxLen; omega
      obtain ⟨b, off, hla, -, -, hb2, c0, c1, c2, c3⟩ := vals_at HX.out.sl hk
      rw [← HBW.out.cell (p := ⟨_, _, none⟩) hb2] at c0 c1 c2 c3
      have hbb : b < wr.heap.size := by omega
      have hlt' : (m : Int) < (x.l.length : Int) := by omega
      have hm0 : (0 : Int) ≤ (m : Int) := by omega
      have hwm : IntKind.i64.wrap ((m : Int) + 1) = ((m + 1 : Nat) : Int) := by rw [IntWalk.i64_in _ (by omega)]; omega
      have HLA := Lib.hid hla
      have HTK := Lib.hid htk
      have HFS := Lib.hid hfs
      have HKT := Lib.hid hkt
      generalize y.v.key = s at *
      generalize x.keys.take m = K at *
      clear hla hk hmem HK HKZ hks htk hfs hkt
      rw [HLA.out]
      by_cases hin : s ∈ K
      · have hsome := idxB_isSome (s := s) (K := K)
        rw [decide_eq_true hin] at hsome
        have HS := Lib.hid hsome
        have HIN := Lib.hid hin
        clear hsome hin
        go_wp2_with (go_at_call 24; refine (HKy _ (HBW.out.alloc (by omega) _)).out.mono ?_; rintro e w1 ⟨rfl, hb1⟩
                     have hba := ((Below.refl wr.heap.size wr).alloc (Nat.le_refl _) (.cells #[.int .u8 y.k, .string y.t, .slice y.la y.l.length y.lc, .slice y.ka y.ks.length y.kc] 26)).trans (hb1.mono (by simp))
                     obtain ⟨c9, hlook, -⟩ := (HMA.out.up hba).lookE s hkz2
                     rw [HS.out] at hlook
                     have hsz1 := hba.size
                     have hml1 : w.heap.size < w1.heap.size := by omega)
        refine ⟨⟨m + 1, a, c, by omega, by go_num, ?_, ?_, ?_, below_via HBW.out hba⟩, by simp [intOf]; omega⟩
        · rw [HFS.out, if_pos HIN.out]
        · rw [HFS.out, if_pos HIN.out]; exact own_below HOW.out hba
        · rw [HTK.out]; exact (HMA.out.up hba).again HIN.out
      · have hsome := idxB_isSome (s := s) (K := K)
        rw [decide_eq_false hin] at hsome
        have HS := Lib.hid hsome
        have HIN := Lib.hid hin
        clear hsome hin
        go_wp2_with (first
          | (go_at_call 24; refine (HKy _ (HBW.out.alloc (by omega) _)).out.mono ?_; rintro e w1 ⟨rfl, hb1⟩
             have hba := ((Below.refl wr.heap.size wr).alloc (Nat.le_refl _) (.cells #[.int .u8 y.k, .string y.t, .slice y.la y.l.length y.lc, .slice y.ka y.ks.length y.kc] 26)).trans (hb1.mono (by simp))
             obtain ⟨c9, hlook, -⟩ := (HMA.out.up hba).lookE s hkz2
             rw [HS.out] at hlook
             have hsz1 := hba.size
             have hml1 : w.heap.size < w1.heap.size := by omega
             obtain ⟨w2, hput, hmp2, hgr2⟩ := (HMA.out.up hba).putE s hkz2 HIN.out (by have := HKT.out; omega)
             rw [HKT.out] at hput
             have hsz2 := hgr2.size
             have hown2 : OwnS w2 (w.heap.size + 1) (.slice a (firsts K).length c) (firsts K) := World.ownsRow.kept (own_below HOW.out hba) hgr2 (by
               cases hq : (Value.slice a (firsts K).length c).ownBlock with
               | none => exact .inl rfl
               | some q => exact .inr fun e => by have := World.ownsRow.lt HOW.out q hq; have := Option.some.inj e; omega)
             have hlit : SlE strE 1 (w2.alloc (.cells #[.string s] 9)) w2.heap.size (w2.heap.size + 1) (some ⟨w2.heap.size, 0, none⟩) [s] := lit_sl (enc := strE) (size := 1) (l := [s]) (t := 9) (fr := (0, 0)) (fun _ => rfl) (heap_alloc_new _ _)
             obtain ⟨v', W', hrun, hown', hgr, -⟩ := app_str (c := 1) (own_below hown2 ((Below.refl _ _).alloc (Nat.le_refl _) _)) hlit (by simp; omega) (by simp; omega)
             obtain ⟨F', hF'⟩ : ∃ F', F' = firsts K ++ [s] := ⟨_, rfl⟩
             rw [← hF'] at hown'
             have HF := Lib.hid hF'
             clear hF'
             obtain ⟨a', c', rfl⟩ := own_form hown'
             have HOW' := Lib.hid hown'
             have HGR := Lib.hid hgr
             have HGR2 := Lib.hid hgr2
             have HM2 := Lib.hid hmp2
             have HOW2 := Lib.hid hown2
             clear hown' hlit hgr hgr2 hmp2 hown2)
          | (at_builtin; refine wl_append (s := .tmp 33) (x := .tmp 35) rfl rfl (hrun _) ?_; clear hrun))
        have hrl : ∀ q, (Value.slice a (firsts K).length c).ownBlock = some q → w.heap.size + 1 ≤ q ∧ q < w2.heap.size := World.ownsRow.lt HOW2.out
        refine ⟨⟨m + 1, a', c', by omega, by go_num, ?_, ?_, ?_, ?_⟩, by simp [intOf]; omega⟩
        · rw [HFS.out, if_neg HIN.out, HF.out]
        · rw [HFS.out, if_neg HIN.out, ← HF.out]; exact HOW'.out
        · rw [HTK.out]
          exact (HM2.out.kept (World.grownBy_alloc _ _ none) (by simp)).kept HGR.out (fun e => by have := hrl _ e.symm; omega)
        · exact (((below_via HBW.out hba).grown HGR2.out (by omega) (fun q hq => by cases hq; omega)).alloc (by omega) _).grown HGR.out (by simp; omega) (fun q hq => by have := hrl q hq; omega)
    · obtain rfl : m = x.l.length := by omega
      have hge : ¬ (x.l.length : Int) < (x.l.length : Int) := by omega
      have hall : x.keys.take x.l.length = x.keys := List.take_of_length_le (Nat.le_of_eq HKL.out)
      have HALL := Lib.hid hall
      clear hall HK
      go_wp2_with fail
      refine bodyPost_ret (v := .tuple #[.map (some w.heap.size), .slice a (firsts (x.keys.take x.l.length)).length c]) (by simp [results, Tryz.results65, go_sem]) rfl ⟨w.heap.size, a, c, ?_, Nat.le_refl _, ?_, ?_, HBW.out⟩
      · rw [HALL.out]
      · have := HMA.out; rwa [HALL.out] at this
      · have := own_sl (enc := strE) (size := 1) (fun _ => rfl) HOW.out
        rw [HALL.out] at this
        exact this.widen (by omega) (Nat.le_refl _)
end Go.Proofs.YtjihepdjcbpgoaaGreatDoor

namespace Go.Proofs.YtjihepdjcbpgoaaGreatDoor
open Go.RowKit Go.Sort

/-- An append whose run is known, of whatever types. -/
theorem wl_append2 {P : Program} {ops : Array Oper} {rest : List Oper} {o : Oper} {a : Act} {Q : Exit → Act → World → Prop} {w w' : World} {v' : Value} (hgd : o.guard = none) {s x : Operand} {t t2 : TypeId}
    (ho : o.op = .call { callee := .builtin .append, args := #[s, x], argTypes := #[t, t2] })
    (hrun : (Builtin.append_ #[t, t2] o.type #[a.eval s, a.eval x]).run P w = .ok v' w') (h : wpList P ops Q rest (a.put o.dst v') w') : wpList P ops Q (o :: rest) a w :=
  wpList_plain hgd fun _ hK => by
    unfold Oper.wp execOp
    simp only [ho, resolve, invoke, builtin, Sem.run_bind, Sem.run_pure, Result.andThen_ok, List.map_toArray, List.map_cons, List.map_nil, hrun]
    exact hK _ _ h
def GrowPost (w : World) (e : Ending) (w' : World) : Prop := ∃ a c, e = .returned (.slice a 0 c) ∧ OwnV w' w.heap.size (.slice a 0 c) [] ∧ Below w.heap.size w w'
set_option maxRecDepth 100000 in
set_option maxHeartbeats 3200000 in
theorem grow27_c (w : World) (n : Nat) (hn : n ≤ 4194304) : Calls Tryz.prog 127 #[.slice none 0 0, .int .i64 n] w (GrowPost w) := by
  rcases Nat.eq_zero_or_pos n with h0 | h0
  · subst h0
    go_enter Tryz.func127, Tryz.ntmps127
    go_wp2_with fail
    go_ret
    exact ⟨none, 0, rfl, ⟨rfl, .inl ⟨rfl, rfl⟩⟩, Below.refl _ _⟩
  · obtain ⟨i0, hi, hz0, hz1, hz2⟩ := info_parts info_val
    have hrz := fun ty => Lib.run_append_grow_zeros (P := Tryz.prog) w 23 3 ty 26 i0 _ .i64 .i64 Tryz.underlying23 Tryz.underlying3 hi hz0 none 0 0 [] (by rw [hz1]; exact run_firstCells_none _ _ _ _ _) n h0 (by rw [hz1]; omega) (by omega) (by omega) (by rw [hz2]; omega) (growslice_fits (by omega) (by rw [hz2]; omega))
    rw [Nat.zero_add] at hrz
    have hGn := grownCap_ge w n 0 26
    have hGm := grownCap_le_maxLen w n 0 26 (by unfold maxLen; omega)
    generalize grownCap w n 0 26 = G at *
    have hG63 : G ≤ 9223372036854775807 := by unfold maxLen at hGm; omega
    have hsz : (#[] ++ Builtin.zeroCells (Value.agg #[.int .u8 0, .string ⟨#[]⟩, .slice none 0 0, .slice none 0 0]).cells n ++ Builtin.zeroCells (Value.agg #[.int .u8 0, .string ⟨#[]⟩, .slice none 0 0, .slice none 0 0]).cells (G - n)).size = G * 4 := by
      simp only [Array.size_append, size_zeroCells, List.size_toArray, List.length_nil]
      rw [show (Value.agg #[.int .u8 0, .string ⟨#[]⟩, .slice none 0 0, .slice none 0 0]).cells.size = 4 by rfl]
      simp; omega
    have hnn : ¬ (n : Int) < 0 := by omega
    have hnp : (n : Int) > 0 := by omega
    have hw1 : IntKind.i64.wrap (n : Int) = n := IntWalk.i64_in _ (by omega)
    generalize (#[] ++ Builtin.zeroCells (Value.agg #[.int .u8 0, .string ⟨#[]⟩, .slice none 0 0, .slice none 0 0]).cells n ++ Builtin.zeroCells (Value.agg #[.int .u8 0, .string ⟨#[]⟩, .slice none 0 0, .slice none 0 0]).cells (G - n)) = cs at *
    clear hi hz0 hz1 hz2
    go_enter Tryz.func127, Tryz.ntmps127
    go_wp2_with (at_builtin; refine wl_append2 (s := .tmp 20) (x := .tmp 21) rfl rfl (hrz _) ?_; clear hrz)
    go_ret
    exact ⟨_, G, rfl, ⟨rfl, .inr ⟨w.heap.size, G, cs, rfl, Nat.le_refl _, (heap_alloc_new (w.drew) _), Nat.zero_le _, hGm, hsz, by simp⟩⟩, (Below.refl _ _).drew.alloc (Nat.le_refl _) _⟩

def ConcatPost (M : List AV) (w : World) (e : Ending) (w' : World) : Prop := ∃ a c, e = .returned (.slice a M.length c) ∧ SlE AV.enc 4 w' w.heap.size w'.heap.size a M ∧ Below w.heap.size w w'
theorem flat_le {w : World} : ∀ {L : List LA}, (∀ q ∈ L, q.Rd w) → (L.flatMap LA.l).length ≤ L.length * 1048576
  | [], _ => Nat.le_refl _
  | q :: L, h => by
    have h1 := (h q (by simp)).len
    have h2 := flat_le (w := w) (L := L) fun r hr => h r (by simp [hr])
    rw [List.flatMap_cons, List.length_append, List.length_cons]
    omega
set_option maxRecDepth 100000 in
set_option maxHeartbeats 3200000 in
theorem concat_c (w : World) (A : Option Addr) (c : Nat) (L : List LA) (h : SlE LA.enc 1 w 0 w.heap.size A L) (hL : ∀ q ∈ L, q.Rd w) (hl : L.length ≤ 3) : Calls Tryz.prog 109 #[.slice A L.length c] w (ConcatPost (L.flatMap LA.l) w) := by
  obtain ⟨fl, hfl⟩ : ∃ fl : Nat → List AV, fl = fun i => (L.take i).flatMap LA.l := ⟨_, rfl⟩
  have F0 := Lib.hid (show fl 0 = [] by rw [hfl]; rfl)
  have FS := Lib.hid (show ∀ (i : Nat) (q : LA), L[i]? = some q → fl (i + 1) = fl i ++ q.l from fun i q hq => by simp only [hfl]; rw [List.take_add_one, hq, List.flatMap_append]; congr 1; simp)
  have FL := Lib.hid (show fl L.length = L.flatMap LA.l by simp only [hfl]; rw [List.take_length])
  have FB := fun i => Lib.hid (show (fl i).length ≤ 4194304 by
    have h1 := flat_le (w := w) (L := L.take i) fun q hq => hL q (List.take_subset _ _ hq)
    rw [List.length_take] at h1
    simp only [hfl]
    omega)
  clear hfl
  generalize L.flatMap LA.l = M at *
  have HG := fun W (n : Nat) hn => Lib.hid (grow27_c W n hn)
  have H := Lib.hid h
  have HL := Lib.hid hL
  clear h hL
  go_enter Tryz.func109, Tryz.ntmps109
  go_wp2_with fail
  go_loopw [3, 11] (fun s3 s11 wr => ∃ i : Nat, i ≤ L.length ∧ s11 = .int .i64 i ∧ s3 = .int .i64 ((fl i).length : Nat) ∧ Below w.heap.size w wr) (fun _ s11 _ => L.length - (intOf s11).toNat)
  case atStart => exact ⟨0, Nat.zero_le _, by go_num, by rw [F0.out]; rfl, Below.refl _ _⟩
  case round =>
    obtain ⟨i, hi, rfl, rfl, hbw⟩ := hrel
    have hf1 := (FB i).out
    have hf2 := (FB (i + 1)).out
    have hsr := hbw.size
    have HBW := Lib.hid hbw
    by_cases hlt : i < L.length
    · have hlt' : (i : Int) < (L.length : Int) := by omega
      have hk : L[i]? = some L[i] := List.getElem?_eq_getElem hlt
      generalize L[i] = q at hk
      have hsn := congrArg List.length (FS.out i q hk)
      rw [List.length_append] at hsn
      obtain ⟨b, off, hla, -, hb1, hb2, g0⟩ := la_at H.out hk
      rw [← hbw.cell (p := ⟨_, _, none⟩) hb2] at g0
      have hbb : b < wr.heap.size := by omega
      have hi0 : (0 : Int) ≤ (i : Int) := by omega
      have hw1 : IntKind.i64.wrap (((fl i).length : Int) + (q.l.length : Int)) = ((fl (i + 1)).length : Nat) := by rw [IntWalk.i64_in _ (by omega), hsn]; omega
      have hwk : IntKind.i64.wrap ((i : Int) + 1) = ((i + 1 : Nat) : Int) := by rw [IntWalk.i64_in _ (by omega)]; omega
      have hneg : ¬ (((fl (i + 1)).length : Nat) : Int) < 0 := by omega
      have HLA := Lib.hid hla
      clear hk hla hsn hbw
      rw [HLA.out]
      generalize hn2 : (fl (i + 1)).length = n2 at *
      generalize (fl i).length = n1 at *
      have HN2 := Lib.hid hn2
      clear hn2
      go_wp2_with fail
      exact ⟨⟨i + 1, by omega, by go_num, by rw [HN2.out], HBW.out⟩, by simp [intOf]; omega⟩
    · obtain rfl : i = L.length := by omega
      have hge : ¬ (L.length : Int) < (L.length : Int) := by omega
      obtain ⟨n0, hn0⟩ : ∃ n0, (fl L.length).length = n0 := ⟨_, rfl⟩
      rw [hn0] at hf1
      have HGn := HG wr n0 hf1
      clear HG hbw
      rw [hn0]
      clear hn0
      go_wp2_with (go_at_call 127; refine HGn.out.mono ?_; rintro e w1 ⟨a1, c1, rfl, hown, hb1⟩)
      have hb0 := below_via HBW.out hb1
      have HOW := Lib.hid (show OwnV w1 w.heap.size (.slice a1 0 c1) [] from World.ownsRow.mono hown hsr)
      have HB1 := Lib.hid hb0
      clear hown hb1 hb0
      go_loopw [6, 27] (fun s6 s27 wi => ∃ (i : Nat) (a : Option Addr) (c : Nat), i ≤ L.length ∧ s27 = .int .i64 i ∧ s6 = .slice a (fl i).length c ∧ OwnV wi w.heap.size (.slice a (fl i).length c) (fl i) ∧ Below w.heap.size w wi) (fun _ s27 _ => L.length - (intOf s27).toNat)
      case atStart => exact ⟨0, a1, c1, Nat.zero_le _, by go_num, by rw [F0.out]; rfl, by rw [F0.out]; exact HOW.out, HB1.out⟩
      case round =>
        obtain ⟨i, a, c', hi, rfl, rfl, hown, hb⟩ := hrel
        have hsz := hb.size
        have hf1 := (FB i).out
        have hf2 := (FB (i + 1)).out
        by_cases hlt : i < L.length
        · have hlt' : (i : Int) < (L.length : Int) := by omega
          have hk : L[i]? = some L[i] := List.getElem?_eq_getElem hlt
          have hmem : L[i] ∈ L := List.getElem_mem hlt
          generalize L[i] = q at hk hmem
          have hsn := FS.out i q hk
          obtain ⟨b, off, hla, -, hb1, hb2, g0⟩ := la_at H.out hk
          rw [← hb.cell (p := ⟨_, _, none⟩) hb2] at g0
          have hbb : b < wr.heap.size := Nat.lt_of_lt_of_le hb2 hsz
          have hi0 : (0 : Int) ≤ (i : Int) := by omega
          have hlen : (fl i).length + q.l.length ≤ 16777216 := by
            have := congrArg List.length hsn
            rw [List.length_append] at this
            omega
          have hwk : IntKind.i64.wrap ((i : Int) + 1) = ((i + 1 : Nat) : Int) := by rw [IntWalk.i64_in _ (by omega)]; omega
          obtain ⟨v', W', hrun, hown', hgr, -⟩ := app_val hown ((HL.out q hmem).sl.up hb) (c := q.c) hlen hsz
          rw [← hsn] at hown'
          obtain ⟨a', c'', rfl⟩ := own_formV hown'
          have HOI := Lib.hid hown
          have HBI := Lib.hid hb
          have HOW' := Lib.hid hown'
          have HGR := Lib.hid hgr
          have HLA := Lib.hid hla
          clear hk hmem hla hsn hf1 hf2 hown hown' hgr hlen hb
          rw [HLA.out]
          obtain ⟨m2, hm2⟩ : ∃ m2, fl (i + 1) = m2 := ⟨_, rfl⟩
          rw [hm2] at HOW' hrun
          have HM2 := Lib.hid hm2
          clear hm2
          generalize fl i = m1 at *
          go_wp2_with (at_builtin; refine wl_append (s := .tmp 31) (x := .tmp 32) rfl rfl (hrun _) ?_; clear hrun)
          exact ⟨⟨i + 1, a', c'', by omega, by go_num, by rw [HM2.out], by rw [HM2.out]; exact HOW'.out, HBI.out.grown HGR.out hsz (fun q hq => (World.ownsRow.lt HOI.out q hq).1)⟩, by simp [intOf]; omega⟩
        · obtain rfl : i = L.length := by omega
          have hge : ¬ (L.length : Int) < (L.length : Int) := by omega
          have HOI := Lib.hid hown
          have HBI := Lib.hid hb
          clear hown hb
          rw [FL.out] at HOI ⊢
          go_wp2_with fail
          go_ret
          exact ⟨a, c', rfl, own_sl AV.enc_len HOI.out, HBI.out⟩

set_option maxRecDepth 100000 in
set_option maxHeartbeats 3200000 in
theorem bad1_c (y : AV) (w : World) (hy : Rd w y) (hw : y.w ≤ 1048576) : Calls Tryz.prog 110 #[y.val] w (Ret (.bool (!y.v.may)) w) := by
  have hb0 : Below w.heap.size w (w.alloc (.cells #[.int .u8 y.k, .string y.t, .slice y.la y.l.length y.lc, .slice y.ka y.ks.length y.kc] 26)) := (Below.refl _ _).alloc (Nat.le_refl _) _
  have HM := Lib.hid (may_c _ y (hy.up hb0) hw)
  go_enter Tryz.func110, Tryz.ntmps110
  go_wp2_with (go_at_call 12; refine HM.out.mono ?_; rintro e w1 ⟨rfl, hb1⟩)
  go_ret
  exact ⟨rfl, below_via hb0 hb1⟩

def anyBad (l : List Val) : Bool := l.any fun v => !v.may
theorem anyBad_not {l : List Val} : anyBad l = false ↔ ∀ v ∈ l, v.may = true := by simp [anyBad]
/-- slices.IndexFunc by sets.bad's own function. -/
def IdxPost (b : Bool) (w : World) (e : Ending) (w' : World) : Prop := ∃ r : Int, e = .returned (.int .i64 r) ∧ decide (0 ≤ r) = b ∧ Below w.heap.size w w'
set_option maxRecDepth 100000 in
set_option maxHeartbeats 3200000 in
theorem idx_bad (w : World) (A : Option Addr) (c : Nat) (l : List AV) (h : SlE AV.enc 4 w 0 w.heap.size A l) (hl : l.length ≤ 4194304) (hr : ∀ y ∈ l, Go.Proofs.YtjihepdjcbpgoaaGreatDoor.Rd w y ∧ y.w ≤ 1048576) :
    Calls Tryz.prog 126 #[.slice A l.length c, .func (.func 110) #[] #[]] w (IdxPost (anyBad (l.map AV.v)) w) := by
  have HX := Lib.hid h
  have HB := fun (y : AV) (hy : y ∈ l) W (h : Below w.heap.size w W) => Lib.hid (bad1_c y W ((hr y hy).1.up h) (hr y hy).2)
  clear h hr
  go_enter Tryz.func126, Tryz.ntmps126
  go_wp2_with fail
  go_loopw [8] (fun i wr => ∃ m : Nat, m ≤ l.length ∧ i = .int .i64 m ∧ (∀ y ∈ l.take m, y.v.may = true) ∧ Below w.heap.size w wr) (fun i _ => l.length - (intOf i).toNat)
  case atStart => exact ⟨0, Nat.zero_le _, by go_num, by simp, Below.refl _ _⟩
  case round =>
    obtain ⟨m, hm, rfl, hall, hbw⟩ := hrel
    have hsr := hbw.size
    have HBW := Lib.hid hbw
    have HALL := Lib.hid hall
    by_cases hlt : m < l.length
    · have hk : l[m]? = some l[m] := List.getElem?_eq_getElem hlt
      have hmem : l[m] ∈ l := List.getElem_mem hlt
      generalize l[m] = y at hk hmem
      obtain ⟨b, off, hla, -, -, hb2, c0, c1, c2, c3⟩ := vals_at HX.out hk
      rw [← hbw.cell (p := ⟨_, _, none⟩) hb2] at c0 c1 c2 c3
      have hbb : b < wr.heap.size := by omega
      have hlt' : (m : Int) < (l.length : Int) := by omega
      have hm0 : (0 : Int) ≤ (m : Int) := by omega
      have hwm : IntKind.i64.wrap ((m : Int) + 1) = ((m + 1 : Nat) : Int) := by rw [IntWalk.i64_in _ (by omega)]; omega
      have HBy := HB y hmem
      have HLA := Lib.hid hla
      have HK := Lib.hid hk
      have HMM := Lib.hid hmem
      clear hla hk hmem hbw hall HB
      rw [HLA.out]
      cases hy : y.v.may with
      | true =>
        rw [hy, Bool.not_true] at HBy
        have HY := Lib.hid hy
        clear hy
        go_wp2_with (go_at_call 110; refine (HBy _ HBW.out).out.mono ?_; rintro e w1 ⟨rfl, hb1⟩)
        refine ⟨⟨m + 1, by omega, by go_num, ?_, below_via HBW.out hb1⟩, by simp [intOf]; omega⟩
        intro u hu
        rw [List.take_add_one, HK.out] at hu
        rcases List.mem_append.1 hu with hu | hu
        · exact HALL.out u hu
        · simp at hu; subst hu; exact HY.out
      | false =>
        rw [hy, Bool.not_false] at HBy
        have HY := Lib.hid hy
        clear hy
        go_wp2_with (go_at_call 110; refine (HBy _ HBW.out).out.mono ?_; rintro e w1 ⟨rfl, hb1⟩)
        go_ret
        refine ⟨(m : Int), rfl, ?_, below_via HBW.out hb1⟩
        rw [decide_eq_true hm0, anyBad]
        exact (List.any_eq_true.2 ⟨y.v, List.mem_map_of_mem HMM.out, by rw [HY.out]; rfl⟩).symm
    · obtain rfl : m = l.length := by omega
      have hge : ¬ (l.length : Int) < (l.length : Int) := by omega
      clear hbw hall HB
      go_wp2_with fail
      go_ret
      refine ⟨-1, rfl, ?_, HBW.out⟩
      have h := HALL.out
      rw [List.take_length] at h
      have hb : anyBad (l.map AV.v) = false := anyBad_not.2 fun v hv => by
        obtain ⟨y, hy, rfl⟩ := List.mem_map.1 hv
        exact h y hy
      rw [hb]; rfl
set_option maxRecDepth 100000 in
set_option maxHeartbeats 3200000 in
theorem has_bad (w : World) (A : Option Addr) (c : Nat) (l : List AV) (h : SlE AV.enc 4 w 0 w.heap.size A l) (hl : l.length ≤ 4194304) (hr : ∀ y ∈ l, Go.Proofs.YtjihepdjcbpgoaaGreatDoor.Rd w y ∧ y.w ≤ 1048576) :
    Calls Tryz.prog 108 #[.slice A l.length c, .func (.func 110) #[] #[]] w (Ret (.bool (anyBad (l.map AV.v))) w) := by
  have HI := Lib.hid (idx_bad w A c l h hl hr)
  clear h hr
  go_enter Tryz.func108, Tryz.ntmps108
  go_wp2_with (go_at_call 126; refine HI.out.mono ?_; rintro e w1 ⟨r, rfl, hr, hb1⟩)
  go_ret
  exact ⟨by rw [← hr]; rfl, hb1⟩
theorem flat_v (L : List LA) : (L.flatMap LA.l).map AV.v = L.flatMap LA.v := by
  induction L with
  | nil => rfl
  | cons q L ih => rw [List.flatMap_cons, List.map_append, ih, List.flatMap_cons]; rfl
set_option maxRecDepth 100000 in
set_option maxHeartbeats 3200000 in
theorem bad_c (w : World) (A : Option Addr) (c : Nat) (L : List LA) (h : SlE LA.enc 1 w 0 w.heap.size A L) (hL : ∀ q ∈ L, q.Rd w) (hl : L.length ≤ 3) : Calls Tryz.prog 64 #[.slice A L.length c] w (Ret (.bool (anyBad (L.flatMap LA.v))) w) := by
  have HC := Lib.hid (concat_c w A c L h hL hl)
  have hfl := flat_le hL
  have hlen : (L.flatMap LA.l).length ≤ 4194304 := by omega
  have HK := fun W (h : Below w.heap.size w W) a c (hs : SlE AV.enc 4 W w.heap.size W.heap.size a (L.flatMap LA.l)) => Lib.hid (has_bad W a c (L.flatMap LA.l) (hs.widen (Nat.zero_le _) (Nat.le_refl _)) hlen (fun y hy => by
    obtain ⟨q, hq, hy⟩ := List.mem_flatMap.1 hy
    exact ⟨((hL q hq).kids y hy).1.up h, ((hL q hq).kids y hy).2⟩))
  rw [← flat_v]
  generalize L.flatMap LA.l = M at *
  clear h hL hfl hlen
  go_enter Tryz.func64, Tryz.ntmps64
  go_wp2_with (first
    | (go_at_call 109; refine HC.out.mono ?_; rintro e w1 ⟨a, c1, rfl, hs, hb1⟩)
    | (go_at_call 108; refine (HK _ hb1 a c1 hs).out.mono ?_; rintro e w2 ⟨rfl, hb2⟩))
  go_ret
  exact ⟨rfl, below_via hb1 hb2⟩
end Go.Proofs.YtjihepdjcbpgoaaGreatDoor

namespace Go.Proofs.YtjihepdjcbpgoaaGreatDoor
open Go.RowKit Go.Sort

/-- A pick, as it lies. -/
structure Pk where
  side : Int
  at_ : Int
def Pk.enc (p : Pk) : List Value := [.int .u8 p.side, .int .i64 p.at_]
abbrev Pk.val (p : Pk) : Value := .agg #[.int .u8 p.side, .int .i64 p.at_]
theorem Pk.enc_len (p : Pk) : p.enc.length = 2 := rfl
/-- What stands where, of three lists. -/
def sideL {α : Type} (b l r : List α) (side : Int) : List α := if side = 0 then b else if side = 1 then l else if side = 2 then r else []
def pickV {α : Type} (b l r : List α) (p : Pk) : Option α := if p.at_ < 0 then none else (sideL b l r p.side)[p.at_.toNat]?
def takeP {α : Type} (b l r : List α) (P : List Pk) : List α := P.filterMap (pickV b l r)
def pkS (side : Int) (k : List ByteArray) (s : ByteArray) : Pk := ⟨side, idxI k s⟩
def bothP (kb kl kr : List ByteArray) : List Pk := (bothK kb kl kr).map (pkS 1 kl)
def fresh1 (kb kl kr : List ByteArray) : List Pk := (newK kb kl).map (pkS 1 kl) ++ (moreK kb kl kr).map (pkS 2 kr)
def fresh2 (kb kl kr : List ByteArray) : List Pk := (newK kb kr).map (pkS 2 kr) ++ (moreK kb kr kl).map (pkS 1 kl)
def keysV (l : List Val) : List ByteArray := l.map Val.key
/-- What Plan hands back. -/
def PicksAre (b l r : List Val) (u : Int) (P : List Pk) : Prop :=
  ∃ F, P = bothP (keysV b) (keysV l) (keysV r) ++ F ∧ (u = 1 → F = fresh1 (keysV b) (keysV l) (keysV r)) ∧ (u = 2 → F = fresh2 (keysV b) (keysV l) (keysV r)) ∧
    (u ≠ 1 → u ≠ 2 → F.Perm (fresh1 (keysV b) (keysV l) (keysV r)) ∧ F.Pairwise fun p q => ∀ a c, pickV b l r p = some a → pickV b l r q = some c → cmpV 256 a c ≤ 0)
theorem pkS_at {l : List Val} {s : ByteArray} (side : Int) (h : s ∈ keysV l) : ∃ (i : Nat) (v : Val), pkS side (keysV l) s = ⟨side, (i : Int)⟩ ∧ l[i]? = some v ∧ v.key = s := by
  cases e : idxB (keysV l) s with
  | none => exact absurd h (idxB_none.1 e)
  | some i =>
    have h1 := idxB_some e
    rw [keysV, List.getElem?_map] at h1
    cases e2 : l[i]? with
    | none => rw [e2] at h1; cases h1
    | some v => rw [e2] at h1; exact ⟨i, v, by rw [pkS, idxI, e], e2, by injection h1⟩
section
variable {b l r : List Val} {s : ByteArray}
theorem pick_l (h : s ∈ keysV l) : ∃ v ∈ l, pickV b l r (pkS 1 (keysV l) s) = some v ∧ v.key = s := by
  obtain ⟨i, v, e, h1, h2⟩ := pkS_at 1 h
  refine ⟨v, List.mem_of_getElem? h1, ?_, h2⟩
  rw [e, pickV, if_neg (by simp), sideL, if_neg (by simp), if_pos rfl]
  simpa using h1
theorem pick_r (h : s ∈ keysV r) : ∃ v ∈ r, pickV b l r (pkS 2 (keysV r) s) = some v ∧ v.key = s := by
  obtain ⟨i, v, e, h1, h2⟩ := pkS_at 2 h
  refine ⟨v, List.mem_of_getElem? h1, ?_, h2⟩
  rw [e, pickV, if_neg (by simp), sideL, if_neg (by simp), if_neg (by simp), if_pos rfl]
  simpa using h1
theorem take_l : ∀ {K : List ByteArray}, (∀ s ∈ K, s ∈ keysV l) → keysV (takeP b l r (K.map (pkS 1 (keysV l)))) = K ∧ ∀ v ∈ takeP b l r (K.map (pkS 1 (keysV l))), v ∈ l
  | [], _ => ⟨rfl, by simp [takeP]⟩
  | s :: K, h => by
    obtain ⟨v, h1, h2, h3⟩ := pick_l (b := b) (r := r) (h s (by simp))
    obtain ⟨i1, i2⟩ := take_l (K := K) fun t ht => h t (by simp [ht])
    have e : takeP b l r ((s :: K).map (pkS 1 (keysV l))) = v :: takeP b l r (K.map (pkS 1 (keysV l))) := by
      simp only [takeP, List.map_cons, List.filterMap_cons, h2]
    rw [e]
    refine ⟨by rw [keysV, List.map_cons, h3]; exact congrArg _ i1, fun u hu => ?_⟩
    rcases List.mem_cons.1 hu with rfl | hu
    · exact h1
    · exact i2 u hu
theorem take_r : ∀ {K : List ByteArray}, (∀ s ∈ K, s ∈ keysV r) → keysV (takeP b l r (K.map (pkS 2 (keysV r)))) = K ∧ ∀ v ∈ takeP b l r (K.map (pkS 2 (keysV r))), v ∈ r
  | [], _ => ⟨rfl, by simp [takeP]⟩
  | s :: K, h => by
    obtain ⟨v, h1, h2, h3⟩ := pick_r (b := b) (l := l) (h s (by simp))
    obtain ⟨i1, i2⟩ := take_r (K := K) fun t ht => h t (by simp [ht])
    have e : takeP b l r ((s :: K).map (pkS 2 (keysV r))) = v :: takeP b l r (K.map (pkS 2 (keysV r))) := by
      simp only [takeP, List.map_cons, List.filterMap_cons, h2]
    rw [e]
    refine ⟨by rw [keysV, List.map_cons, h3]; exact congrArg _ i1, fun u hu => ?_⟩
    rcases List.mem_cons.1 hu with rfl | hu
    · exact h1
    · exact i2 u hu
end
section
variable {b l r : List Val}
theorem take_app (P Q : List Pk) : takeP b l r (P ++ Q) = takeP b l r P ++ takeP b l r Q := List.filterMap_append
theorem take_both : keysV (takeP b l r (bothP (keysV b) (keysV l) (keysV r))) = bothK (keysV b) (keysV l) (keysV r) ∧ ∀ v ∈ takeP b l r (bothP (keysV b) (keysV l) (keysV r)), v ∈ l :=
  take_l fun _ hs => (bothK_mem.1 hs).2.1
theorem take_f1 : keysV (takeP b l r (fresh1 (keysV b) (keysV l) (keysV r))) = newK (keysV b) (keysV l) ++ moreK (keysV b) (keysV l) (keysV r) ∧ ∀ v ∈ takeP b l r (fresh1 (keysV b) (keysV l) (keysV r)), v ∈ l ∨ v ∈ r := by
  obtain ⟨h1, h2⟩ := take_l (b := b) (l := l) (r := r) (K := newK (keysV b) (keysV l)) fun _ hs => (newK_mem.1 hs).1
  obtain ⟨h3, h4⟩ := take_r (b := b) (l := l) (r := r) (K := moreK (keysV b) (keysV l) (keysV r)) fun _ hs => (moreK_mem.1 hs).1
  rw [fresh1, take_app]
  refine ⟨by rw [keysV, List.map_append]; exact congr (congrArg _ h1) h3, fun v hv => ?_⟩
  rcases List.mem_append.1 hv with hv | hv
  · exact .inl (h2 v hv)
  · exact .inr (h4 v hv)
theorem take_f2 : keysV (takeP b l r (fresh2 (keysV b) (keysV l) (keysV r))) = newK (keysV b) (keysV r) ++ moreK (keysV b) (keysV r) (keysV l) ∧ ∀ v ∈ takeP b l r (fresh2 (keysV b) (keysV l) (keysV r)), v ∈ l ∨ v ∈ r := by
  obtain ⟨h1, h2⟩ := take_r (b := b) (l := l) (r := r) (K := newK (keysV b) (keysV r)) fun _ hs => (newK_mem.1 hs).1
  obtain ⟨h3, h4⟩ := take_l (b := b) (l := l) (r := r) (K := moreK (keysV b) (keysV r) (keysV l)) fun _ hs => (moreK_mem.1 hs).1
  rw [fresh2, take_app]
  refine ⟨by rw [keysV, List.map_append]; exact congr (congrArg _ h1) h3, fun v hv => ?_⟩
  rcases List.mem_append.1 hv with hv | hv
  · exact .inr (h2 v hv)
  · exact .inl (h4 v hv)
/-- Of a fresh pick: its key. -/
theorem fresh1_at {p : Pk} (h : p ∈ fresh1 (keysV b) (keysV l) (keysV r)) : ∃ v, pickV b l r p = some v ∧ ((v ∈ l ∧ v.key ∈ newK (keysV b) (keysV l) ∧ p = pkS 1 (keysV l) v.key) ∨ (v ∈ r ∧ v.key ∈ moreK (keysV b) (keysV l) (keysV r) ∧ p = pkS 2 (keysV r) v.key)) := by
  rcases List.mem_append.1 h with h | h
  · obtain ⟨s, hs, rfl⟩ := List.mem_map.1 h
    obtain ⟨v, h1, h2, h3⟩ := pick_l (b := b) (r := r) (newK_mem.1 hs).1
    exact ⟨v, h2, .inl ⟨h1, by rw [h3]; exact hs, by rw [h3]⟩⟩
  · obtain ⟨s, hs, rfl⟩ := List.mem_map.1 h
    obtain ⟨v, h1, h2, h3⟩ := pick_r (b := b) (l := l) (moreK_mem.1 hs).1
    exact ⟨v, h2, .inr ⟨h1, by rw [h3]; exact hs, by rw [h3]⟩⟩
variable (hl : ∀ v ∈ l, v.may = true) (hr : ∀ v ∈ r, v.may = true)
include hl hr
theorem fresh1_anti {p q : Pk} (hp : p ∈ fresh1 (keysV b) (keysV l) (keysV r)) (hq : q ∈ fresh1 (keysV b) (keysV l) (keysV r)) (h1 : ∀ a c, pickV b l r p = some a → pickV b l r q = some c → cmpV 256 a c ≤ 0) (h2 : ∀ a c, pickV b l r q = some a → pickV b l r p = some c → cmpV 256 a c ≤ 0) : p = q := by
  obtain ⟨v, e1, d1⟩ := fresh1_at hp
  obtain ⟨u, e2, d2⟩ := fresh1_at hq
  have hmv : v.may = true := by rcases d1 with ⟨h, -⟩ | ⟨h, -⟩; exact hl v h; exact hr v h
  have hmu : u.may = true := by rcases d2 with ⟨h, -⟩ | ⟨h, -⟩; exact hl u h; exact hr u h
  have h3 := h1 v u e1 e2
  have h4 := h2 u v e2 e1
  have h5 := (cmpV_ord 256).anti v u trivial trivial
  have hk : v.key = u.key := (key_same hmv hmu).2 (by omega)
  rcases d1 with ⟨-, f1, rfl⟩ | ⟨-, f1, rfl⟩
  · rcases d2 with ⟨-, f2, rfl⟩ | ⟨-, f2, rfl⟩
    · rw [hk]
    · rw [← hk] at f2; exact absurd (newK_mem.1 f1).1 (moreK_mem.1 f2).2.2
  · rcases d2 with ⟨-, f2, rfl⟩ | ⟨-, f2, rfl⟩
    · rw [← hk] at f2; exact absurd (newK_mem.1 f2).1 (moreK_mem.1 f1).2.2
    · rw [hk]
theorem picks_one {u : Int} {P Q : List Pk} (h : PicksAre b l r u P) (h' : PicksAre b l r u Q) : P = Q := by
  obtain ⟨F, rfl, f1, f2, f3⟩ := h
  obtain ⟨G, rfl, g1, g2, g3⟩ := h'
  congr 1
  by_cases h1 : u = 1
  · rw [f1 h1, g1 h1]
  by_cases h2 : u = 2
  · rw [f2 h2, g2 h2]
  obtain ⟨p1, w1⟩ := f3 h1 h2
  obtain ⟨p2, w2⟩ := g3 h1 h2
  exact List.Perm.eq_of_pairwise (fun x y hx hy i j => fresh1_anti hl hr (p1.subset hx) (p2.subset hy) i j) w1 w2 (p1.trans p2.symm)
/-- What is taken, by its keys, is a merged set; and it is of the sides. -/
theorem picks_merged {u : Int} {P : List Pk} (h : PicksAre b l r u P) : Merged (keysV b) (keysV l) (keysV r) u (keysV (takeP b l r P)) ∧ ∀ v ∈ takeP b l r P, v ∈ l ∨ v ∈ r := by
  obtain ⟨F, rfl, f1, f2, f3⟩ := h
  obtain ⟨b1, b2⟩ := take_both (b := b) (l := l) (r := r)
  obtain ⟨c1, c2⟩ := take_f1 (b := b) (l := l) (r := r)
  obtain ⟨d1, d2⟩ := take_f2 (b := b) (l := l) (r := r)
  have hF : ∀ v ∈ takeP b l r F, v ∈ l ∨ v ∈ r := by
    by_cases h1 : u = 1
    · rw [f1 h1]; exact c2
    by_cases h2 : u = 2
    · rw [f2 h2]; exact d2
    · intro v hv
      exact c2 v (((f3 h1 h2).1.filterMap _).subset hv)
  rw [take_app]
  refine ⟨⟨keysV (takeP b l r F), by rw [keysV, List.map_append]; exact congrArg (· ++ _) b1, ?_, fun h1 => by rw [f1 h1, c1], fun h2 => by rw [f2 h2, d1], fun h1 h2 => ?_⟩, fun v hv => ?_⟩
  · by_cases h1 : u = 1
    · rw [f1 h1, c1]
    by_cases h2 : u = 2
    · rw [f2 h2, d1]; exact (fresh_perm _ _ _).symm
    · rw [← c1]; exact (((f3 h1 h2).1.filterMap _).map _)
  · have hw := (f3 h1 h2).2
    rw [keysV, List.pairwise_map, takeP, List.pairwise_filterMap]
    refine hw.imp_of_mem fun {p q} hp hq h a ha c hc => ?_
    have ia := hF a (List.mem_filterMap.2 ⟨p, hp, ha⟩)
    have ic := hF c (List.mem_filterMap.2 ⟨q, hq, hc⟩)
    exact ⟨a, c, by rcases ia with i | i; exact hl a i; exact hr a i, by rcases ic with i | i; exact hl c i; exact hr c i, rfl, rfl, h a c ha hc⟩
  · rcases List.mem_append.1 hv with hv | hv
    · exact .inl (b2 v hv)
    · exact hF v hv
end
end Go.Proofs.YtjihepdjcbpgoaaGreatDoor
