/-
  No run of the machine lowers the number of draws: a law of the model, for every program. With it a call that keeps all that was there has only drawn on and grown (calls_grow). No condition.
  sets.Plan's own functions: has a side a key; a pick's value; picks in the order of their values. Conditions: what they capture lies in memory as Plan lays it; the values may be, their weights are bounded.
  What sets.Plan leans on: rows of picks, a map that tells what was had, two sides turned, picks sorted by their values. Conditions: what is read lies in memory; lengths are bounded; the values may be.
-/
import Derived.Test.YtjihepdjcbpgoaaGreatDoorYD
import Derived.Test.YtjihepdjcbpgoaaGreatDoorO5
import Derived.Test.YtjihepdjcbpgoaaGreatDoorOA
import Derived.Test.YtjihepdjcbpgoaaGreatDoorShelf5
import Derived.Shelf.SlSortCmp.NoneTotal
import Derived.Below
import Derived.Sort.Grow
import Derived.Deep.Draws
namespace Go.Proofs.YtjihepdjcbpgoaaGreatDoor

/-- No run of a Sem lowers the number of draws. -/
def upR {α : Type} (d : Nat) : Result α → Prop
  | .ok _ w => d ≤ w.drawn
  | .halt _ w => d ≤ w.drawn

theorem ask_up {α : Type} : ∀ (a : Ask α) (w : World), w.drawn ≤ (w.ask a).2.drawn
  | .done a, w => Nat.le_refl _
  | .ask what range k, w => by
    simp only [World.ask]
    split
    · exact ask_up _ w
    · exact Nat.le_trans (Nat.le_succ w.drawn) (ask_up (k ((Question.extern what range).cut (w.tape w.drawn (Question.extern what range)))) { w with drawn := w.drawn + 1 })
theorem sys_up (w : World) (c : Sys) : w.drawn ≤ (w.sys c).2.drawn := by
  have h := ask_up (Kernel.perform c w.os) w
  unfold World.sys
  split
  · exact Nat.le_refl _
  · next r os w' hw => rw [hw] at h; exact h
theorem setCell_drawn (w : World) (a : Addr) (v : Value) : (w.setCell a v).drawn = w.drawn := rfl
theorem freeze_drawn (w : World) (a : Addr) (n : Nat) : (w.freeze a n).drawn = w.drawn := by unfold World.freeze; split <;> rfl
theorem viewStore_up (p : Program) (w : World) (x : Addr) (u : TypeId) (a : Addr) (v : Value) (b : Bool) {r : World × List Addr} (h : w.viewStore p x u a v b = .ok r) : r.1.drawn = w.drawn := by
  unfold World.viewStore at h
  simp only [bind, Except.bind, pure, Except.pure] at h
  repeat' (split at h)
  all_goals first | (cases h; done) | (cases h; rfl)
theorem farStore_up (p : Program) (w : World) (a : Addr) (v : Value) (b : Bool) {r : World × List Addr} (h : w.farStore p a v b = .ok r) : r.1.drawn = w.drawn := by
  unfold World.farStore at h
  repeat' (split at h)
  · next r' hr => cases h; exact viewStore_up _ _ _ _ _ _ _ hr
  · cases h
  · cases h
theorem run_up {α : Type} (p : Program) : ∀ (s : Sem α) (w : World), upR w.drawn (s.run p w)
  | .pure a, w => Nat.le_refl _
  | .load m a k, w => by
    simp only [Sem.run]
    split
    · exact run_up p _ w
    · split
      · exact run_up p _ w
      · exact Nat.le_refl _
  | .store m a v k, w => by
    cases v <;> simp only [Sem.run] <;> first
      | exact Nat.le_refl _
      | (split
         · split
           · exact Nat.le_refl _
           · exact run_up p k (w.setCell a _)
         · split
           · next w' x hf => have := farStore_up p w a _ _ hf; have h2 := run_up p k w'; simp only at this; rwa [this] at h2
           · exact Nat.le_refl _)
  | .new o k, w => run_up p (k w.heap.size) { w with heap := w.heap.push o }
  | .shape r k, w => run_up p (k (w.shape? r)) w
  | .freeze a n k, w => by have := run_up p k (w.freeze a n); rwa [freeze_drawn] at this
  | .frozen a k, w => run_up p (k (w.frozen? a)) w
  | .getObj r k, w => by
    simp only [Sem.run]
    split
    · exact Nat.le_refl _
    · exact run_up p _ w
    · exact Nat.le_refl _
  | .setObj r o k, w => by
    simp only [Sem.run]
    split
    · exact Nat.le_refl _
    · exact run_up p k { w with heap := w.heap.setIfInBounds r o }
    · exact Nat.le_refl _
  | .choose q k, w => by
    simp only [Sem.run]
    split
    · exact run_up p _ w
    · have := run_up p (k (q.cut (w.tape w.drawn q))) { w with drawn := w.drawn + 1 }
      revert this
      cases (k (q.cut (w.tape w.drawn q))).run p { w with drawn := w.drawn + 1 } <;> exact fun h => Nat.le_trans (Nat.le_succ _) h
  | .sys c k, w => by
    have := run_up p (k (w.sys c).1) (w.sys c).2
    revert this
    simp only [Sem.run]
    cases (k (w.sys c).1).run p (w.sys c).2 <;> exact fun h => Nat.le_trans (sys_up w c) h
  | .program k, w => run_up p (k p) w
  | .mark m k, w => run_up p k w
  | .halt h, w => Nat.le_refl _

theorem runT_run {α : Type} (p : Program) : ∀ (s : Sem α) (w : World) (es : Array Event), (s.runT p w es).1 = s.run p w
  | .pure a, w, es => rfl
  | .load m a k, w, es => by
    simp only [Sem.run, Sem.runT]
    split
    · exact runT_run p _ w _
    · split
      · exact runT_run p _ w _
      · rfl
  | .store m a v k, w, es => by
    cases v <;> simp only [Sem.run, Sem.runT] <;> first
      | rfl
      | (split
         · split
           · rfl
           · exact runT_run p k _ _
         · split
           · exact runT_run p k _ _
           · rfl)
  | .new o k, w, es => runT_run p (k w.heap.size) _ _
  | .shape r k, w, es => runT_run p (k (w.shape? r)) w es
  | .freeze a n k, w, es => runT_run p k _ _
  | .frozen a k, w, es => runT_run p (k (w.frozen? a)) w es
  | .getObj r k, w, es => by
    simp only [Sem.run, Sem.runT]
    split
    · rfl
    · exact runT_run p _ w _
    · rfl
  | .setObj r o k, w, es => by
    simp only [Sem.run, Sem.runT]
    split
    · rfl
    · exact runT_run p k _ _
    · rfl
  | .choose q k, w, es => by
    simp only [Sem.run, Sem.runT]
    split
    · exact runT_run p (k 0) w _
    · exact runT_run p (k (q.cut (w.tape w.drawn q))) _ _
  | .sys c k, w, es => runT_run p (k (w.sys c).1) _ _
  | .program k, w, es => runT_run p (k p) w _
  | .mark m k, w, es => runT_run p k w _
  | .halt h, w, es => rfl
theorem run_ok {α : Type} {p : Program} {s : Sem α} {w w' : World} {a : α} (h : s.run p w = .ok a w') : w.drawn ≤ w'.drawn := by
  have := run_up p s w; rw [h] at this; exact this
theorem run_halt {α : Type} {p : Program} {s : Sem α} {w w' : World} {a : Halt} (h : s.run p w = .halt a w') : w.drawn ≤ w'.drawn := by
  have := run_up p s w; rw [h] at this; exact this
theorem runT_ok {α : Type} {p : Program} {s : Sem α} {w w' : World} {es : Array Event} {a : α} (h : (s.runT p w es).1 = .ok a w') : w.drawn ≤ w'.drawn := by
  rw [runT_run] at h; exact run_ok h
theorem runT_halt {α : Type} {p : Program} {s : Sem α} {w w' : World} {es : Array Event} {a : Halt} (h : (s.runT p w es).1 = .halt a w') : w.drawn ≤ w'.drawn := by
  rw [runT_run] at h; exact run_halt h
theorem runT_ok' {α : Type} {p : Program} {s : Sem α} {w w' : World} {es es' : Array Event} {a : α} (h : s.runT p w es = (.ok a w', es')) : w.drawn ≤ w'.drawn := runT_ok (by rw [h])
theorem runT_halt' {α : Type} {p : Program} {s : Sem α} {w w' : World} {es es' : Array Event} {a : Halt} (h : s.runT p w es = (.halt a w', es')) : w.drawn ≤ w'.drawn := runT_halt (by rw [h])
theorem runT_up {α : Type} (p : Program) (s : Sem α) (w : World) (es : Array Event) : upR w.drawn (s.runT p w es).1 := by
  rw [runT_run]; exact run_up p s w

/-- What a goroutine's step leaves: no fewer draws. -/
def upG (d : Nat) : GStep → Prop
  | .go _ w _ => d ≤ w.drawn
  | .comm _ _ _ _ w _ => d ≤ w.drawn
  | .spawn _ _ w _ => d ≤ w.drawn
  | .count _ w _ => d ≤ w.drawn
  | .timer _ _ w _ => d ≤ w.drawn
  | .alone _ _ w _ => d ≤ w.drawn
  | .newcoro _ _ _ w _ => d ≤ w.drawn
  | .coroswitch _ _ _ w _ => d ≤ w.drawn
  | .collect _ w _ => d ≤ w.drawn
  | .watch _ w _ => d ≤ w.drawn
  | .ended _ _ _ => True
theorem upG_after {d : Nat} {es : Array Event} {s : GStep} (h : upG d s) : upG d (GStep.after es s) := by cases s <;> exact h
theorem upG_le {d e : Nat} {s : GStep} (h : upG e s) (hd : d ≤ e) : upG d s := by
  cases s <;> first | exact trivial | exact Nat.le_trans hd h
theorem upG_ite {d : Nat} {c : Prop} [Decidable c] {a b : GStep} (h1 : upG d a) (h2 : upG d b) : upG d (if c then a else b) := by split <;> assumption
theorem endWith_up (w : World) (fd : Nat) (t : ByteArray) (o : Outcome) (d : Nat) : upG d (endWith w fd t o) := by
  unfold endWith
  simp only
  repeat' split
  all_goals exact trivial
theorem dieOf_up (fr : Frame) (a : List ByteArray) (m : String) (b : Bool) (w : World) : upG w.drawn (dieOf fr a m b w) := Nat.le_refl _
theorem endThrow_up (fr : Frame) (m : String) (w : World) : upG w.drawn (endThrow fr m w) := Nat.le_refl _
theorem endPrinting_up (p : Program) (fr : Frame) (v : Value) (w : World) : upG w.drawn (endPrinting p fr v w) := by
  unfold endPrinting
  simp only
  split
  · exact endThrow_up _ _ _
  · exact trivial
theorem endFatal_up (p : Program) (fr : Frame) (cs : List Frame) (dy : Option Dying) (m : String) (w : World) : upG w.drawn (endFatal p fr cs dy m w) := by
  unfold endFatal
  simp only
  split
  · next h => exact run_ok h
  · exact trivial
  · exact trivial
theorem writeOn_up (p : Program) (fr : Frame) (d : Dying) (f : Fatal) (w : World) : upG w.drawn (writeOn p fr d f w) := by
  unfold writeOn
  simp only
  split
  · exact trivial
  · split
    · next h => exact runT_ok' h
    · next h => exact runT_halt' h
    · exact trivial
    · exact trivial
theorem die_up (p : Program) (fr : Frame) (d : Dying) (w : World) : upG w.drawn (die p fr d w) := by
  unfold die
  simp only
  split
  · exact writeOn_up _ _ _ _ _
  · split
    · split
      · exact Nat.le_refl _
      · exact endWith_up _ _ _ _ _
    · split
      · exact Nat.le_refl _
      · split
        · next h => exact run_ok h
        · exact trivial
      · refine upG_after ?_
        split
        · next h => exact runT_ok h
        · next h => exact runT_ok h
        · exact trivial
        · next h => exact upG_le (endPrinting_up _ _ _ _) (runT_halt h)
        · exact trivial
      · exact trivial

theorem doReturn_up (p : Program) (main : Bool) (fr : Frame) (cs : List Frame) (dy : Option Dying) (v : Value) (w : World) : upG w.drawn (doReturn p main fr cs dy v w) := by
  unfold doReturn
  simp only
  repeat' split
  all_goals first | exact trivial | exact Nat.le_refl _
theorem callDeferred_up (p : Program) (fr : Frame) (cs : List Frame) (dy : Option Dying) (d : Deferred) (w : World) : upG w.drawn (callDeferred p fr cs dy d w) := by
  unfold callDeferred
  simp only
  refine upG_ite trivial ?_
  · refine upG_after ?_
    obtain ⟨r, hr⟩ : ∃ r, (Sem.runT p (invoke d.target d.args) w #[]).1 = r := ⟨_, rfl⟩
    rw [hr]
    repeat' split
    all_goals first
      | exact trivial
      | exact runT_ok hr
      | exact runT_halt hr
      | exact upG_le (endFatal_up _ _ _ _ _ _) (runT_halt hr)
      | exact upG_le (endThrow_up _ _ _) (runT_halt hr)
theorem unwind_up (p : Program) (main : Bool) (fr : Frame) (cs : List Frame) (dy : Option Dying) (w : World) : upG w.drawn (unwind p main fr cs dy w) := by
  unfold unwind
  simp only
  split
  · refine upG_after ?_
    split
    · next h => exact runT_ok h
    · exact trivial
  · exact callDeferred_up _ _ _ _ _ _
  · split
    · exact trivial
    · split
      · exact trivial
      · split
        · exact Nat.le_refl _
        · split
          · split
            · exact Nat.le_refl _
            · split
              · next h => exact run_ok h
              · exact trivial
              · exact trivial
          · split
            · exact endPrinting_up _ _ _ _
            · exact trivial
    · split
      · exact doReturn_up _ _ _ _ _ _ _
      · refine upG_after ?_
        split
        · next h => exact upG_le (doReturn_up _ _ _ _ _ _ _) (runT_ok h)
        · exact trivial
        · exact trivial
theorem early_up (p : Program) (fr : Frame) (cs : List Frame) (dy : Option Dying) (g : Nat) (w : World) : upG w.drawn (early p fr cs dy g w) := by
  have hn : ∀ w : World, upG w.drawn (match w.heap[g]? with
    | some (.pending c elem) => .go { frame := fr, callers := cs, status := .running, dying := dy } { w with heap := w.heap.setIfInBounds g (.cells c elem) }
    | _ => .ended (.stuck "early: the variable does not wait" (fr.pos p)) w) := fun w => by
    split
    · exact Nat.le_refl _
    · exact trivial
  unfold early
  simp only
  refine upG_ite (hn w) ?_
  split
  · exact trivial
  · refine upG_ite (hn w) (upG_ite (hn w) ?_)
    split
    · exact trivial
    · exact Nat.le_refl _
    · exact trivial
    · exact hn w
    · refine upG_ite (Nat.le_refl _) (upG_ite (hn w) ?_)
      split
      · next h => exact upG_le (hn _) (run_ok h)
      · next h => exact run_ok h
      · exact trivial
theorem apply_up (p : Program) (fr : Frame) (cs : List Frame) (dy : Option Dying) (s : Sem Next) (w : World) (listen : Bool) : upG w.drawn (stepG.apply p listen fr cs dy s w) := by
  unfold stepG.apply
  simp only
  refine upG_after ?_
  obtain ⟨r, hr⟩ : ∃ r, (if listen = true then s.runT p w #[] else (s.run p w, #[])).1 = r := ⟨_, rfl⟩
  have hr2 : s.run p w = r := by
    rw [← hr]; split
    · exact (runT_run p s w #[]).symm
    · rfl
  rw [hr]
  repeat' split
  all_goals first
    | exact trivial
    | exact run_ok hr2
    | exact run_halt hr2
    | exact upG_le (endFatal_up _ _ _ _ _ _) (run_halt hr2)
    | exact upG_le (endThrow_up _ _ _) (run_halt hr2)
    | exact upG_le (endThrow_up _ _ _) (run_ok hr2)
    | exact upG_le (early_up _ _ _ _ _ _) (run_halt hr2)
theorem oper_up (p : Program) (fr : Frame) (cs : List Frame) (dy : Option Dying) (w : World) (listen : Bool) : upG w.drawn (stepG.oper p listen fr cs dy w) := by
  unfold stepG.oper
  split
  · exact trivial
  · split
    · exact apply_up _ _ _ _ _ _ _
    · exact apply_up _ _ _ _ _ _ _
theorem exec_up (p : Program) (fr : Frame) (cs : List Frame) (dy : Option Dying) (w : World) (listen : Bool) (main : Bool) : upG w.drawn (stepG.exec p main listen fr cs dy w) := by
  unfold stepG.exec
  simp only
  split
  · skip
    split
    · exact upG_ite (Nat.le_refl _) trivial
    · refine upG_after ?_
      split
      · next h => exact upG_le (doReturn_up _ _ _ _ _ _ _) (runT_ok h)
      · exact trivial
  · skip
    split
    · exact upG_ite (Nat.le_refl _) trivial
    · refine upG_after ?_
      split
      · next h => exact upG_le (doReturn_up _ _ _ _ _ _ _) (runT_ok h)
      · exact trivial
  · exact Nat.le_refl _
  · exact Nat.le_refl _
  · exact Nat.le_refl _
  · exact Nat.le_refl _
  · exact Nat.le_refl _
  · split
    · exact Nat.le_refl _
    · exact trivial
  · exact Nat.le_refl _
  · exact Nat.le_refl _
  · exact Nat.le_refl _
  · exact Nat.le_refl _
  · generalize exitTo _ _ = x
    cases x with
    | some _ => exact Nat.le_refl _
    | none =>
      simp only [Option.elim]
      split
      · exact upG_ite (Nat.le_refl _) trivial
      · refine upG_after ?_
        split
        · next h => exact upG_le (doReturn_up _ _ _ _ _ _ _) (runT_ok h)
        · exact trivial
  · generalize gotoIn _ _ = x
    cases x with
    | some _ => exact Nat.le_refl _
    | none =>
      simp only [Option.elim]
      split
      · exact upG_ite (Nat.le_refl _) trivial
      · refine upG_after ?_
        split
        · next h => exact upG_le (doReturn_up _ _ _ _ _ _ _) (runT_ok h)
        · exact trivial
  · refine upG_after ?_
    split
    · next h => exact upG_le (apply_up _ _ _ _ _ _ _) (runT_ok h)
    · exact trivial
  · exact trivial
  · exact apply_up _ _ _ _ _ _ _
  · refine upG_after ?_
    split
    · next h => exact runT_ok h
    · next h => exact runT_halt h
    · exact trivial
  · exact trivial
  · exact apply_up _ _ _ _ _ _ _
  · generalize Extern.next _ = x
    cases x with
    | none => exact trivial
    | some e => exact apply_up _ _ _ _ _ _ _
  · refine upG_ite (Nat.le_refl _) ?_
    split
    · next h => exact run_ok h
    · exact trivial
  · exact Nat.le_refl _
  · exact upG_ite (oper_up _ _ _ _ _ _) (Nat.le_refl _)
theorem stepG_up (p : Program) (main : Bool) (g : Goroutine) (w : World) (listen : Bool) : upG w.drawn (stepG p main g w listen) := by
  unfold stepG
  split
  split
  · exact die_up _ _ _ _
  · exact exec_up _ _ _ _ _ _ _
  · exact unwind_up _ _ _ _ _ _

/-- ..and a machine's. -/
def upS (d : Nat) : Stepped → Prop
  | .next m => d ≤ m.world.drawn
  | .ended _ _ => True
theorem upS_le {d e : Nat} {s : Stepped} (h : upS e s) (hd : d ≤ e) : upS d s := by
  cases s
  · exact Nat.le_trans hd h
  · exact trivial
theorem look_up (p : Program) (gs : Array Goroutine) (rest : Rest) (w : World) : upS w.drawn (look p gs rest w) := by
  unfold look
  simp only
  split
  · split
    · exact trivial
    · split
      · exact trivial
      · split
        · next h => have h1 := run_ok h; exact h1
        · exact trivial
        · exact trivial
  · exact trivial
theorem drain_up (w : World) (c : Nat) : (drain w c).2.drawn = w.drawn := by
  unfold drain
  split <;> rfl
theorem retime_up (m : Machine) (k : Nat) (t : Timer) (a b : Nat) : (retime m k t a b).2.world.drawn = m.world.drawn := by
  unfold retime
  simp only
  split
  · exact drain_up _ _
  · rfl
theorem timerOp_up (m : Machine) (op : TimerOp) {v : Value} {m' : Machine} (h : timerOp m op = .ok (v, m')) : m'.world.drawn = m.world.drawn := by
  cases op with
  | new t =>
    unfold timerOp at h
    simp only at h
    repeat' (split at h)
    all_goals first | (cases h; done) | (cases h; rfl)
  | stop var =>
    unfold timerOp timerOp.named at h
    simp only at h
    split at h
    · have := congrArg (fun x : Except Halt (Value × Machine) => match x with | .ok r => r.2.world.drawn | _ => 0) h
      simp only at this
      rw [← this]
      exact retime_up _ _ _ _ _
    · cases h
  | reset var a b =>
    unfold timerOp timerOp.named at h
    simp only at h
    split at h
    · next m2 hm =>
      have hm2 : m2.world.drawn = m.world.drawn := by
        unfold timerOp.opened at hm
        split at hm
        · split at hm
          · cases hm; rfl
          · cases hm
        · cases hm; rfl
      split at h
      · have := congrArg (fun x : Except Halt (Value × Machine) => match x with | .ok r => r.2.world.drawn | _ => 0) h
        simp only at this
        rw [← this, ← hm2]
        exact retime_up _ _ _ _ _
      · cases h
    · cases h
  | deadline c r wr a =>
    unfold timerOp at h
    cases h
    rfl
theorem communicate_up (p : Program) (rest : Rest) (gs : Array Goroutine) (i : Nat) (g : Goroutine) (cases : Array CommCase) (b : Bool) (sh : CommShape) (w : World) : upS w.drawn (communicate p rest gs i g cases b sh w).1 := by
  unfold communicate
  simp only
  split
  · exact trivial
  · split
    · split
      · split
        · next h =>
          unfold waitingAt at h
          split at h
          · split at h
            · cases h; exact Nat.le_refl _
            · cases h
          · cases h; exact Nat.le_refl _
        · exact trivial
      · exact Nat.le_refl _
    · split
      · exact trivial
      · next h =>
        have h1 := run_ok h
        split
        · split
          · next h2 => exact Nat.le_trans h1 (run_halt h2)
          · exact trivial
        · exact h1
        · exact h1
        · split
          · exact h1
          · split
            · next h2 => have h3 := run_ok h2; exact Nat.le_trans h1 h3
            · exact trivial
        · exact h1
        · exact h1
        · exact trivial
theorem runT_m_up (p : Program) (m : Machine) (i : Nat) (listen : Bool) : upS m.world.drawn (Go.runT p m i listen).1 := by
  unfold Go.runT
  simp only
  obtain ⟨s, hs⟩ : ∃ s, stepG p (i == 0) (m.gs.swapAt! i { (default : Goroutine) with status := .finished }).1 m.world listen = s := ⟨_, rfl⟩
  have hu := stepG_up p (i == 0) (m.gs.swapAt! i { (default : Goroutine) with status := .finished }).1 m.world listen
  rw [hs] at hu
  rw [hs]
  cases s with
  | go g w es => exact hu
  | ended o w es => exact trivial
  | comm g c b sh w es => exact upS_le (communicate_up _ _ _ _ _ _ _ _ _) hu
  | spawn g c w es => exact hu
  | count g w es => 
    simp only
    split
    · exact trivial
    · exact hu
  | alone g o w es => exact hu
  | collect g w es => exact upS_le (look_up _ _ _ _) hu
  | watch g w es => exact hu
  | newcoro g c d w es => exact hu
  | coroswitch g c x w es =>
    simp only
    split
    · exact hu
    · split
      · next h => cases h; exact hu
      · exact trivial
    · exact trivial
  | timer g op w es =>
    simp only
    split
    · next h => have := timerOp_up _ _ h; exact Nat.le_trans hu (Nat.le_of_eq this.symm)
    · split
      · next h => cases h; exact hu
      · exact trivial
    · exact trivial
    · exact trivial
/-- What a move leaves. -/
def upM (d : Nat) : Move → Prop
  | .goroutine m _ => d ≤ m.world.drawn
  | .machine s _ => upS d s
theorem upM_le {d e : Nat} {s : Move} (h : upM e s) (hd : d ≤ e) : upM d s := by
  cases s
  · exact Nat.le_trans hd h
  · exact upS_le h hd
theorem serve_up (p : Program) (m : Machine) (k : Nat) : upS m.world.drawn (serve p m k) := by
  unfold serve
  simp only
  split
  · exact trivial
  · exact Nat.le_refl _
  · split
    · exact trivial
    · exact Nat.le_refl _
theorem askOn_up (p : Program) (m : Machine) : upM m.world.drawn (askOn p m) := by
  have hpick : ∀ (rs : List Nat) (m : Machine), upM m.world.drawn (match (choose (.sched rs.length)).run p m.world with
      | .halt _ w => .machine (.ended (.stuck "sched" "") w)
      | .ok k world =>
        if rs.length ≤ 1 then .goroutine { m with world } (rs.getD k 0) else
        match (choose (.extern "sched.slice" 65536)).run p world with
        | .halt _ w => .machine (.ended (.stuck "sched.slice" "") w)
        | .ok n world => .goroutine { m with world, rest := { m.rest with slice := if n = 0 then none else some (rs.getD k 0, n) } } (rs.getD k 0)) := fun rs m => by
    split
    · exact trivial
    · next h =>
      split
      · exact run_ok h
      · split
        · exact trivial
        · next h2 => exact Nat.le_trans (run_ok h) (run_ok h2)
  unfold askOn
  simp only
  split
  · exact trivial
  · next h =>
    have h0 := run_ok h
    split
    · exact upS_le (serve_up _ _ _) h0
    · split
      · split
        · exact h0
        · split
          · exact h0
          · split
            · next he => exact trivial
            · exact trivial
      · split
        · exact upM_le (hpick _ { m with world := _ }) h0
        · split
          · exact trivial
          · next h2 => have h3 := run_ok h2; exact upM_le (hpick _ { m with world := _ }) (Nat.le_trans h0 h3)
          · next h2 => have h3 := run_ok h2; exact Nat.le_trans h0 h3
          · next h2 => have h3 := run_ok h2; exact upM_le (hpick _ _) (Nat.le_trans h0 h3)
theorem ask_m_up (p : Program) (m : Machine) : upM m.world.drawn (ask p m) := by
  unfold ask
  split
  · split
    · exact trivial
    · next w' h =>
      have h1 := run_ok h
      have h2 := look_up p m.gs m.rest w'
      split
      · next hs => rw [hs] at h2; exact upM_le (askOn_up p _) (Nat.le_trans h1 h2)
      · exact upS_le h2 h1
    · next h => exact upM_le (askOn_up p _) (run_ok h)
  · exact askOn_up p m
theorem move_up (p : Program) (m : Machine) : upM m.world.drawn (move p m) := by
  unfold move
  split
  · split
    · exact Nat.le_refl _
    · exact trivial
  · split
    · split
      · exact Nat.le_refl _
      · exact ask_m_up _ _
    · exact ask_m_up _ _
theorem step_up (p : Program) (m : Machine) : upS m.world.drawn (step p m) := by
  have h := move_up p m
  unfold step stepT
  split
  · next m' i hm => rw [hm] at h; exact upS_le (runT_m_up p m' i true) h
  · next s ops hm => rw [hm] at h; exact h
theorem runN_up (p : Program) : ∀ (n : Nat) (m : Machine), upS m.world.drawn (runN p n m)
  | 0, m => Nat.le_refl _
  | n + 1, m => by
    have h := step_up p m
    simp only [runN]
    split
    · next m' hm => rw [hm] at h; exact upS_le (runN_up p n m') h
    · next hm => exact h
theorem steps_up {p : Program} {m m' : Machine} (h : Steps p m m') : m.world.drawn ≤ m'.world.drawn := by
  obtain ⟨n, hn⟩ := h
  have := runN_up p n m
  rw [hn] at this
  exact this
/-- A call that returns has drawn no less than was drawn ahead of it. -/
theorem calls_up {p : Program} {f : FuncId} {args : Array Value} {w : World} {R : Ending → World → Prop} (h : Calls p f args w R) :
    Calls p f args w fun e w' => R e w' ∧ (∀ v, e = .returned v → w.drawn ≤ w'.drawn) := fun cs => by
  obtain ⟨e, w', fr, h1, h2, h3⟩ := h cs
  refine ⟨e, w', fr, ⟨h1, fun v hv => ?_⟩, h2, h3⟩
  subst hv
  exact steps_up h2

/-- What stays below the heap's size, with no fewer draws, is the world itself, drawn on and grown. -/
theorem grow_of_below {w w' : World} (h : RowKit.Below w.heap.size w w') (hd : w.drawn ≤ w'.drawn) : ∃ q os', w' = Sort.grow (w.drewN q) os' := by
  refine ⟨w'.drawn - w.drawn, w'.heap.extract w.heap.size w'.heap.size, ?_⟩
  obtain ⟨heap, tape, drawn, os, output⟩ := w
  obtain ⟨heap', tape', drawn', os', output'⟩ := w'
  obtain ⟨h1, h2, h3, h4, h5⟩ := h
  simp only at h1 h2 h3 h4 h5 hd
  subst h1 h2 h3
  have e : heap' = heap ++ heap'.extract heap.size heap'.size := by
    apply Array.ext
    · simp; omega
    · intro i g1 g2
      rcases Nat.lt_or_ge i heap.size with hi | hi
      · rw [Array.getElem_append_left hi]
        have := h5 i hi
        rw [Array.getElem?_eq_getElem g1, Array.getElem?_eq_getElem hi] at this
        exact Option.some.inj this
      · rw [Array.getElem_append_right hi, Array.getElem_extract]
        congr 1
        omega
  unfold Sort.grow World.drewN
  simp only [World.mk.injEq, and_true]
  exact ⟨e, trivial, by omega⟩
theorem calls_grow {p : Program} {f : FuncId} {args : Array Value} {w : World} {v : Value} (h : Calls p f args w (fun e w' => e = .returned v ∧ RowKit.Below w.heap.size w w')) :
    Calls p f args w fun e w' => e = .returned v ∧ ∃ q os', w' = Sort.grow (w.drewN q) os' :=
  (calls_up h).mono fun _ _ ⟨⟨h1, h2⟩, h3⟩ => ⟨h1, grow_of_below h2 (h3 v h1)⟩
end Go.Proofs.YtjihepdjcbpgoaaGreatDoor

namespace Go.Proofs.YtjihepdjcbpgoaaGreatDoor
open Go.RowKit Go.Sort

set_option maxRecDepth 100000 in
theorem idxL_0 (a b c : Value) (w : World) : (Instr.index 38 (.agg #[a, b, c]) (.int .u8 0)).run Tryz.prog w = .ok a w := by rfl
set_option maxRecDepth 100000 in
theorem idxL_1 (a b c : Value) (w : World) : (Instr.index 38 (.agg #[a, b, c]) (.int .u8 1)).run Tryz.prog w = .ok b w := by rfl
set_option maxRecDepth 100000 in
theorem idxL_2 (a b c : Value) (w : World) : (Instr.index 38 (.agg #[a, b, c]) (.int .u8 2)).run Tryz.prog w = .ok c w := by rfl
theorem has_cell {w : World} {g : Nat} {u0 u1 u2 : Value} {t : TypeId} (h : w.heap[g]? = some (.cells #[u0, u1, u2] t (0, 0))) : w.cell? ⟨g, 0, none⟩ = some u0 ∧ w.cell? ⟨g, 1, none⟩ = some u1 ∧ w.cell? ⟨g, 2, none⟩ = some u2 ∧ g < w.heap.size := by
  refine ⟨?_, ?_, ?_, ?_⟩
  · simp [World.cell?, h]
  · simp [World.cell?, h]
  · simp [World.cell?, h]
  · rcases Nat.lt_or_ge g w.heap.size with h1 | h1
    · exact h1
    · rw [Array.getElem?_eq_none h1] at h; cases h
set_option maxRecDepth 100000 in
set_option maxHeartbeats 3200000 in
theorem has_c (w : World) (g B0 B1 B2 : Nat) (hx : w.heap[g]? = some (.cells #[.map (some B0), .map (some B1), .map (some B2)] 81 (0, 0))) (side B : Nat) (K : List ByteArray) (hs : (side = 0 ∧ B = B0) ∨ (side = 1 ∧ B = B1) ∨ (side = 2 ∧ B = B2)) (hm : MapIs w B K) (s : ByteArray) (hz : s.size ≤ Go.maxLen) :
    Calls Tryz.prog 66 #[.int .u8 side, .string s, .pointer (some ⟨g, 0, none⟩)] w (Ret (.bool (decide (s ∈ K))) w) := by
  obtain ⟨c0, c1, c2, hg⟩ := has_cell hx
  obtain ⟨c9, hlook, -⟩ := hm.lookE s hz
  rw [idxB_isSome] at hlook
  obtain ⟨r, hr⟩ : ∃ r, decide (s ∈ K) = r := ⟨_, rfl⟩
  rw [hr] at hlook
  rw [hr]
  clear hm hx hr
  rcases hs with ⟨rfl, rfl⟩ | ⟨rfl, rfl⟩ | ⟨rfl, rfl⟩
  all_goals
    go_enter Tryz.func66, Tryz.ntmps66
    go_wp2_with fail
    go_ret
    exact ⟨rfl, Below.refl _ _⟩

/-- The boxes of the three lists. -/
def Boxes3 (w : World) (n4 n5 n6 : Nat) (x y z : LA) : Prop := w.cell? ⟨n4, 0, none⟩ = some (.slice x.a x.l.length x.c) ∧ w.cell? ⟨n5, 0, none⟩ = some (.slice y.a y.l.length y.c) ∧ w.cell? ⟨n6, 0, none⟩ = some (.slice z.a z.l.length z.c)
theorem Boxes3.up {w w' : World} {n4 n5 n6 : Nat} {x y z : LA} (h : Boxes3 w n4 n5 n6 x y z) (hb : Below w.heap.size w w') : Boxes3 w' n4 n5 n6 x y z :=
  ⟨(hb.cell (p := ⟨_, _, none⟩) (World.block_lt_of_cell? w _ h.1)).trans h.1, (hb.cell (p := ⟨_, _, none⟩) (World.block_lt_of_cell? w _ h.2.1)).trans h.2.1, (hb.cell (p := ⟨_, _, none⟩) (World.block_lt_of_cell? w _ h.2.2)).trans h.2.2⟩
theorem pick_parts {α : Type} {b l r : List α} {p : Pk} {v : α} (h : pickV b l r p = some v) : ∃ i : Nat, p.at_ = (i : Int) ∧ ((p.side = 0 ∧ b[i]? = some v) ∨ (p.side = 1 ∧ l[i]? = some v) ∨ (p.side = 2 ∧ r[i]? = some v)) := by
  unfold pickV at h
  split at h
  · cases h
  · next hn =>
    refine ⟨p.at_.toNat, by omega, ?_⟩
    unfold sideL at h
    split at h
    · exact .inl ⟨by assumption, h⟩
    · split at h
      · exact .inr (.inl ⟨by assumption, h⟩)
      · split at h
        · exact .inr (.inr ⟨by assumption, h⟩)
        · simp at h
set_option maxRecDepth 100000 in
set_option maxHeartbeats 3200000 in
theorem value_c (w : World) (n4 n5 n6 : Nat) (x y z : LA) (hx : x.Rd w) (hy : y.Rd w) (hz : z.Rd w) (hb : Boxes3 w n4 n5 n6 x y z) (p : Pk) (u : AV) (hp : pickV x.l y.l z.l p = some u) :
    Calls Tryz.prog 68 #[p.val, .pointer (some ⟨n4, 0, none⟩), .pointer (some ⟨n5, 0, none⟩), .pointer (some ⟨n6, 0, none⟩)] w (Ret u.val w) := by
  obtain ⟨i, hi, hs⟩ := pick_parts hp
  obtain ⟨sd, at_⟩ := p
  simp only at hi hs
  subst hi
  obtain ⟨d4, d5, d6⟩ := hb
  have l4 : n4 < w.heap.size := World.block_lt_of_cell? w _ d4
  have l5 : n5 < w.heap.size := World.block_lt_of_cell? w _ d5
  have l6 : n6 < w.heap.size := World.block_lt_of_cell? w _ d6
  have hlen : ∃ q : LA, q.Rd w ∧ q.l[i]? = some u ∧ ((sd = 0 ∧ q = x) ∨ (sd = 1 ∧ q = y) ∨ (sd = 2 ∧ q = z)) := by
    rcases hs with ⟨h1, h2⟩ | ⟨h1, h2⟩ | ⟨h1, h2⟩
    · exact ⟨x, hx, h2, .inl ⟨h1, rfl⟩⟩
    · exact ⟨y, hy, h2, .inr (.inl ⟨h1, rfl⟩)⟩
    · exact ⟨z, hz, h2, .inr (.inr ⟨h1, rfl⟩)⟩
  clear hs hx hy hz hp
  obtain ⟨q, hq, hk, hsd⟩ := hlen
  have hql := hq.len
  have hlt : i < q.l.length := (List.getElem?_eq_some_iff.1 hk).1
  obtain ⟨b, off, hla, -, -, hb2, c0, c1, c2, c3⟩ := vals_at hq.sl hk
  have hlt' : (i : Int) < (q.l.length : Int) := by omega
  have hi0 : (0 : Int) ≤ (i : Int) := by omega
  have HLA := Lib.hid hla
  clear hq hk
  rcases hsd with ⟨rfl, rfl⟩ | ⟨rfl, rfl⟩ | ⟨rfl, rfl⟩
  · have hix := idxL_0
    rw [hla] at d4
    clear hla
    go_enter Tryz.func68, Tryz.ntmps68
    go_wp2_with fail
    go_region
    go_wp2_with fail
    refine bodyPost_ret (v := u.val) (by simp [results, Tryz.results68, go_sem]) rfl ⟨rfl, (((Below.refl _ _).alloc (Nat.le_refl _) _).alloc (by simp) _).drew⟩
  · have hix := idxL_1
    rw [hla] at d5
    clear hla
    go_enter Tryz.func68, Tryz.ntmps68
    go_wp2_with fail
    go_region
    go_wp2_with fail
    refine bodyPost_ret (v := u.val) (by simp [results, Tryz.results68, go_sem]) rfl ⟨rfl, (((Below.refl _ _).alloc (Nat.le_refl _) _).alloc (by simp) _).drew⟩
  · have hix := idxL_2
    rw [hla] at d6
    clear hla
    go_enter Tryz.func68, Tryz.ntmps68
    go_wp2_with fail
    go_region
    go_wp2_with fail
    refine bodyPost_ret (v := u.val) (by simp [results, Tryz.results68, go_sem]) rfl ⟨rfl, (((Below.refl _ _).alloc (Nat.le_refl _) _).alloc (by simp) _).drew⟩
end Go.Proofs.YtjihepdjcbpgoaaGreatDoor

namespace Go.Proofs.YtjihepdjcbpgoaaGreatDoor
open Go.RowKit Go.Sort

theorem info_pk : (Tryz.prog.info? 50).map (fun i => (i.zero, i.size, i.bytes)) = some (some (.agg #[.int .u8 0, .int .i64 0]), 2, 16) := by kernel_rfl
def OwnP (w : World) (base : Nat) (v : Value) (l : List Pk) : Prop := w.ownsRow base 50 2 v l.length (l.flatMap Pk.enc)
theorem app_pk {w : World} {base : Nat} {v : Value} {l : List Pk} (hown : OwnP w base v l) {lo hi : Nat} {A : Option Addr} {m : List Pk} {c : Nat} (hr : SlE Pk.enc 2 w lo hi A m) (hn : l.length + m.length ≤ 16777216) (hbase : base ≤ w.heap.size) :
    ∃ v' w', (∀ ty, (Builtin.append_ #[41, 41] ty #[v, .slice A m.length c]).run Tryz.prog w = .ok v' w') ∧ OwnP w' base v' (l ++ m) ∧ w.grownBy w' v.ownBlock ∧ (v'.ownBlock = v.ownBlock ∨ v'.ownBlock = some w.heap.size) := by
  obtain ⟨i0, hi0, hz0, hz1, hz2⟩ := info_parts info_pk
  obtain ⟨v', w', h1, h2, h3, h4⟩ := run_append_sl (P := Tryz.prog) w Pk.enc base 41 0 50 i0 _ 2 16 Tryz.underlying41 hi0 hz0 hz1 hz2 rfl (by omega) (by omega) v l.length _ hown lo hi A m c hr (fun _ => rfl) (fun x u hu => by simp [Pk.enc] at hu; rcases hu with rfl | rfl <;> rfl) hn hbase
  exact ⟨v', w', fun ty => h1, by simp only [OwnP, List.length_append, List.flatMap_append]; exact h2, h3, h4⟩
theorem own_formP {w : World} {base : Nat} {v : Value} {l : List Pk} (h : OwnP w base v l) : ∃ a c, v = .slice a l.length c := by
  rcases h.2 with ⟨e, h0⟩ | ⟨g, cap, cur, e, _⟩
  · exact ⟨none, 0, by rw [e, h0]⟩
  · exact ⟨_, _, e⟩
theorem clip_pk (w : World) (a : Option Addr) (cap n : Nat) (hn : n ≤ cap) :
    Calls Tryz.prog 71 #[.slice a n cap] w fun e w' => e = .returned (.slice a n n) ∧ w = w' := by
  go_enter Tryz.func71, Tryz.ntmps71
  go_wp2_with fail
  go_ret
  exact ⟨rfl, rfl⟩

/-- Block B is a map that has just these keys. -/
def MapHas (w : World) (B : Nat) (K : List ByteArray) : Prop :=
  ∃ (n : Nat) (D : DataW Unit), w.ownsMap Tryz.prog 9 (plainElem Tryz.prog 3) B n D ∧ n ≤ K.length ∧ ∀ s : ByteArray, s.size ≤ Go.maxLen → Maps.has D (keyLit s) = decide (s ∈ K)
section
variable {w w' : World} {B : Nat} {K : List ByteArray}
theorem MapHas.made (w : World) : MapHas (w.alloc (.map #[] 0)) w.heap.size [] :=
  ⟨0, .map [], World.ownsMap_made _ _ _ _, Nat.le_refl _, fun s _ => by rw [decide_eq_false (by simp)]; rfl⟩
theorem MapHas.kept {row : Option Nat} (h : MapHas w B K) (hg : w.grownBy w' row) (hne : some B ≠ row) : MapHas w' B K := by
  obtain ⟨n, D, h1, h2, h3⟩ := h
  exact ⟨n, D, h1.kept hg hne, h2, h3⟩
theorem MapHas.lt (h : MapHas w B K) : B < w.heap.size := by
  obtain ⟨n, D, h1, -⟩ := h
  exact h1.lt
theorem MapHas.blk (h : MapHas w B K) (hb : w'.heap[B]? = w.heap[B]?) : MapHas w' B K := by
  obtain ⟨n, D, ⟨es, clock, g1, g2⟩, h2, h3⟩ := h
  exact ⟨n, D, ⟨es, clock, hb.trans g1, g2⟩, h2, h3⟩
theorem MapHas.up (h : MapHas w B K) (hb : Below w.heap.size w w') : MapHas w' B K := h.blk (hb.block B h.lt)
theorem MapHas.look (h : MapHas w B K) (s : ByteArray) (hs : s.size ≤ Go.maxLen) :
    ∃ c : Int, (Instr.lookup 79 (.map (some B)) (.string s) true).run Tryz.prog w = .ok (.tuple #[.int .i64 c, .bool (decide (s ∈ K))]) w := by
  obtain ⟨n, D, h1, h2, h3⟩ := h
  obtain ⟨v, ps, hrun, hv⟩ := h1.look_ok mapLaw Tryz.underlying79 (mapZero w) (plainElem_int Tryz.underlying3 (by decide)) (WideMaps.keyOf_string_mk Tryz.underlying9 hs)
  obtain ⟨c, rfl, hc, -⟩ := plainElem_int_inv Tryz.underlying3 hv
  exact ⟨c, by rw [hrun, h3 s hs]⟩
theorem MapHas.put (h : MapHas w B K) (s : ByteArray) (hs : s.size ≤ Go.maxLen) (i : Nat) (hi : i ≤ 1073741824) (hl : K.length < 1073741824) :
    ∃ w', (Instr.mapUpdate 79 (.map (some B)) (.string s) (.int .i64 i)).run Tryz.prog w = .ok () w' ∧ MapHas w' B (K ++ [s]) ∧ w.grownBy w' (some B) := by
  obtain ⟨n, D, h1, h2, h3⟩ := h
  have hm := h1.isMap
  obtain ⟨w', hrun, hown, hg⟩ := h1.update mapLaw Tryz.underlying79 (by unfold Go.maxLen; omega) (WideMaps.keyOf_string_mk Tryz.underlying9 hs) (plainElem_int (a := (i : Int)) Tryz.underlying3 (by simp [Lit.wf, IntKind.min, IntKind.max, IntKind.signed, IntKind.bits]; omega))
  refine ⟨w', hrun, ⟨n + 1, _, hown, by simp; omega, fun t ht => ?_⟩, hg⟩
  by_cases e : t = s
  · subst e
    rw [Maps.has_put_same hm (by trivial), decide_eq_true (by simp)]
  · have hne : keyLit t ≠ keyLit s := fun h => e (keyLit_inj h)
    rw [Maps.has_put_other hne, h3 t ht]
    exact decide_eq_decide.2 (by simp [e])
theorem MapIs.lookF (h : MapIs w B K) (s : ByteArray) (hs : s.size ≤ Go.maxLen) (hm : s ∈ K) :
    (Instr.lookup 80 (.map (some B)) (.string s) false).run Tryz.prog w = .ok (.int .i64 (idxI K s)) w := by
  obtain ⟨n, D, h1, h2, h3⟩ := h
  obtain ⟨e1, e2⟩ := h3 s hs
  cases e : idxB K s with
  | none => exact absurd hm (idxB_none.1 e)
  | some i =>
    obtain ⟨c, hrun, hat, -⟩ := h1.lookup_int mapLaw Tryz.underlying80 Tryz.underlying3 (mapZero w) (WideMaps.keyOf_string_mk Tryz.underlying9 hs)
    rw [hrun]
    have h4 := e2 i e
    rw [hat] at h4
    cases h4
    rw [idxI, e]
end
theorem idxI_bound {K : List ByteArray} {s : ByteArray} (hm : s ∈ K) : ∃ i : Nat, idxI K s = (i : Int) ∧ i < K.length := by
  cases e : idxB K s with
  | none => exact absurd hm (idxB_none.1 e)
  | some i => exact ⟨i, by rw [idxI, e], (List.getElem?_eq_some_iff.1 (idxB_some e)).1⟩

/-- slices.Reverse of two sides. -/
theorem turn2_c (w : World) (g : Nat) (hx : w.heap[g]? = some (.cells #[.int .u8 1, .int .u8 2] 87 (0, 0))) :
    Calls Tryz.prog 67 #[.slice (some ⟨g, 0, none⟩) 2 2] w fun e w' => e = .returned (.tuple #[]) ∧ w'.heap[g]? = some (.cells #[.int .u8 2, .int .u8 1] 87 (0, 0)) ∧ Below g w w' := by
  have hg : g < w.heap.size := by
    rcases Nat.lt_or_ge g w.heap.size with h1 | h1
    · exact h1
    · rw [Array.getElem?_eq_none h1] at hx; cases hx
  have c0 : w.cell? ⟨g, 0, none⟩ = some (.int .u8 1) := by simp [World.cell?, hx]
  have c1 : w.cell? ⟨g, 1, none⟩ = some (.int .u8 2) := by simp [World.cell?, hx]
  have f0 : w.frozen? ⟨g, 0, none⟩ = false := by simp [World.frozen?, hx]
  have f1 : w.frozen? ⟨g, 1, none⟩ = false := by simp [World.frozen?, hx]
  have HX := Lib.hid hx
  clear hx
  go_enter Tryz.func67, Tryz.ntmps67
  go_wp2_with fail
  refine wp_loop_rounds 2 ?_
  rw [rounds_succ]
  go_wp2_with fail
  go_region
  go_wp2_with fail
  rw [rounds_succ]
  go_wp2_with fail
  go_end0
  refine ⟨rfl, ?_, ((((Below.refl g w).setCell (p := ⟨g, 0, none⟩) (Nat.le_refl _) _).setCell (p := ⟨g, 1, none⟩) (Nat.le_refl _) _).drew)⟩
  show ((w.setCell ⟨g, 0, none⟩ (.int .u8 2)).setCell ⟨g, 1, none⟩ (.int .u8 1)).heap[g]? = _
  exact Go.Joins.block_setCell (Go.Joins.block_setCell HX.out _) _

theorem pickV_map {α β : Type} (f : α → β) (b l r : List α) (p : Pk) : pickV (b.map f) (l.map f) (r.map f) p = (pickV b l r p).map f := by
  unfold pickV sideL
  split
  · rfl
  · repeat' split
    all_goals simp
/-- A pick that there is, with its value. -/
structure PkV (x y z : LA) where
  p : Pk
  u : AV
  hp : pickV x.l y.l z.l p = some u
  may : u.v.may = true
def PkV.enc {x y z : LA} (q : PkV x y z) : List Value := q.p.enc
def PkV.cmp {x y z : LA} (p q : PkV x y z) : Int := cmpV 256 p.u.v q.u.v
theorem PkV.rd {w : World} {x y z : LA} (hx : x.Rd w) (hy : y.Rd w) (hz : z.Rd w) (q : PkV x y z) : Go.Proofs.YtjihepdjcbpgoaaGreatDoor.Rd w q.u ∧ q.u.w ≤ 1048576 := by
  obtain ⟨i, -, h⟩ := pick_parts q.hp
  rcases h with ⟨-, h⟩ | ⟨-, h⟩ | ⟨-, h⟩
  · exact hx.kids _ (List.mem_of_getElem? h)
  · exact hy.kids _ (List.mem_of_getElem? h)
  · exact hz.kids _ (List.mem_of_getElem? h)
theorem ltPkV_iff {x y z : LA} (a b : PkV x y z) : ltOf PkV.cmp a b = true ↔ cmpV 256 a.u.v b.u.v < 0 := by unfold ltOf PkV.cmp; exact decide_eq_true_iff
theorem ltPkV_not {x y z : LA} (a b : PkV x y z) : ltOf PkV.cmp a b = false ↔ cmpV 256 b.u.v a.u.v ≤ 0 := by
  have e := (cmpV_ord 256).anti a.u.v b.u.v trivial trivial
  rw [← Bool.not_eq_true, ltPkV_iff]
  omega
theorem swoPkV (x y z : LA) : SWO (ltOf (PkV.cmp (x := x) (y := y) (z := z))) where
  irrefl a := (ltPkV_not a a).2 (Int.le_of_eq ((cmpV_ord 256).refl (a := a.u.v) trivial))
  trans a b c h1 h2 := (ltPkV_iff a c).2 ((cmpV_ord 256).trans _ _ _ trivial trivial trivial ((ltPkV_iff a b).1 h1) ((ltPkV_iff b c).1 h2))
  ntrans a b c h1 h2 := (ltPkV_not a c).2 ((cmpV_ord 256).le trivial trivial trivial ((ltPkV_not b c).1 h2) ((ltPkV_not a b).1 h1)).1
theorem pkbox_up {w W : World} {g : Nat} {a b : Value} {t : TypeId} (hb : Below w.heap.size w W) (h : w.heap[g]? = some (.cells #[a, b] t (0, 0))) : W.cell? ⟨g, 0, none⟩ = some a ∧ W.cell? ⟨g, 1, none⟩ = some b := by
  have hg : g < w.heap.size := by
    rcases Nat.lt_or_ge g w.heap.size with h1 | h1
    · exact h1
    · rw [Array.getElem?_eq_none h1] at h; cases h
  have h2 := (hb.block g hg).trans h
  refine ⟨?_, ?_⟩ <;> simp [World.cell?, h2]
set_option maxRecDepth 100000 in
set_option maxHeartbeats 3200000 in
theorem plan3s_c (w : World) (n3 n4 n5 n6 : Nat) (x y z : LA) (hx : x.Rd w) (hy : y.Rd w) (hz : z.Rd w) (hb : Boxes3 w n4 n5 n6 x y z) (h3 : w.cell? ⟨n3, 0, none⟩ = some (.func (.func 68) #[] #[.pointer (some ⟨n4, 0, none⟩), .pointer (some ⟨n5, 0, none⟩), .pointer (some ⟨n6, 0, none⟩)])) (p q : PkV x y z) :
    Calls Tryz.prog 70 #[p.p.val, q.p.val, .pointer (some ⟨n3, 0, none⟩)] w (Ret (.int .i64 (PkV.cmp p q)) w) := by
  have l3 : n3 < w.heap.size := World.block_lt_of_cell? w _ h3
  have HP := fun W (h : Below w.heap.size w W) => Lib.hid (value_c W n4 n5 n6 x y z (hx.up h) (hy.up h) (hz.up h) (hb.up h) p.p p.u p.hp)
  have HQ := fun W (h : Below w.heap.size w W) => Lib.hid (value_c W n4 n5 n6 x y z (hx.up h) (hy.up h) (hz.up h) (hb.up h) q.p q.u q.hp)
  have HC := fun W (h : Below w.heap.size w W) => Lib.hid (show Calls Tryz.prog 16 #[p.u.val, q.u.val] W (Ret (.int .i64 (PkV.cmp p q)) W) by
    have h2 := cmp_c p.u q.u W ((p.rd hx hy hz).1.up h) ((q.rd hx hy hz).1.up h) (p.rd hx hy hz).2 (q.rd hx hy hz).2
    rw [cmpR_may p.may q.may] at h2
    exact h2)
  generalize PkV.cmp p q = r at *
  generalize p.u = u at *
  generalize q.u = v at *
  generalize p.p = p at *
  generalize q.p = q at *
  clear hx hy hz hb
  obtain ⟨ps, pa⟩ := p
  obtain ⟨qs, qa⟩ := q
  go_enter Tryz.func70, Tryz.ntmps70
  go_wp2_with fail
  go_name_world W0 hW0
  have hb0 : Below w.heap.size w W0 := by rw [← hW0]; exact ((Below.refl _ _).alloc (Nat.le_refl _) _).alloc (by simp) _
  have hp0 : W0.heap[w.heap.size]? = some (.cells #[.int .u8 ps, .int .i64 pa] 50 (0, 0)) := by rw [← hW0]; exact (heap_alloc_old _ _ _ (by simp)).trans (heap_alloc_new w _)
  have hq0 : W0.heap[w.heap.size + 1]? = some (.cells #[.int .u8 qs, .int .i64 qa] 50 (0, 0)) := by
    rw [← hW0]
    have := heap_alloc_new (w.alloc (.cells #[.int .u8 ps, .int .i64 pa] 50)) (.cells #[.int .u8 qs, .int .i64 qa] 50)
    rwa [World.size_alloc] at this
  clear hW0
  have h30 := (hb0.cell (p := ⟨_, _, none⟩) l3).trans h3
  have l30 : n3 < W0.heap.size := Nat.lt_of_lt_of_le l3 hb0.size
  have HB0 := Lib.hid hb0
  have LD := Lib.hid (fun W (h : Below W0.heap.size W0 W) => And.intro (pkbox_up h hp0) (And.intro (pkbox_up h hq0) ((h.cell (p := ⟨_, _, none⟩) l30).trans h30)))
  have HP' := fun W (h : Below W0.heap.size W0 W) => HP W (below_via HB0.out h)
  have HQ' := fun W (h : Below W0.heap.size W0 W) => HQ W (below_via HB0.out h)
  have HC' := fun W (h : Below W0.heap.size W0 W) => HC W (below_via HB0.out h)
  clear HP HQ HC hb0 hp0 hq0 h30 h3
  refine wp_region_bl (by kernel_rfl) (by kernel_rfl) ?_
  repeat (first | go_big_quiet_skip | (go_big_quiet_want; go_big_quiet_op; first | go_big_quiet_on | (refine ⟨_, fun _ _ => (by with_reducible rfl), ?_⟩; go_big_quiet_on) | (apply Exists.intro; refine ⟨fun w' hC => (by simp only [LD.out w' hC, Result.andThen]; exact ⟨trivial, rfl⟩), ?_⟩; go_big_quiet_on) | (apply Exists.intro; refine ⟨fun w' hC => (by (with_reducible refine (HP' w' hC).out.mono ?_); exact fun e w2 ⟨he, hb⟩ => ⟨he, hC.trans (hb.mono hC.size)⟩), ?_⟩; go_big_quiet_on) | (apply Exists.intro; refine ⟨fun w' hC => (by (with_reducible refine (HQ' w' hC).out.mono ?_); exact fun e w2 ⟨he, hb⟩ => ⟨he, hC.trans (hb.mono hC.size)⟩), ?_⟩; go_big_quiet_on) | (apply Exists.intro; refine ⟨fun w' hC => (by (with_reducible refine (HC' w' hC).out.mono ?_); exact fun e w2 ⟨he, hb⟩ => ⟨he, hC.trans (hb.mono hC.size)⟩), ?_⟩; go_big_quiet_on)))
  refine wpQuiet_nil ?_; intro wz hbz
  go_wp2_with fail
  go_ret
  exact ⟨rfl, below_via HB0.out hbz⟩
theorem heap_sortWorldK {α : Type} [Inhabited α] (enc : α → List Value) (k : Nat) (w : World) (blk off m : Nat) (dk : Array α) (os : Array Obj) {b : Nat} (hb : b < w.heap.size) (hne : b ≠ blk) : (sortWorldK enc k w blk off m dk os).heap[b]? = w.heap[b]? := by
  unfold sortWorldK
  rw [heap_grow_old _ _ (by simpa [putRowK] using hb)]
  simp [putRowK, putRow, mapBlock, Sort.ahead, Array.getElem?_modify, Ne.symm hne]
theorem pkLays (W2 w : World) (hb2 : Below W2.heap.size W2 w) (n3 n4 n5 n6 : Nat) (x y z : LA) (hx : x.Rd W2) (hy : y.Rd W2) (hz : z.Rd W2) (hb : Boxes3 W2 n4 n5 n6 x y z) (h3 : w.cell? ⟨n3, 0, none⟩ = some (.func (.func 68) #[] #[.pointer (some ⟨n4, 0, none⟩), .pointer (some ⟨n5, 0, none⟩), .pointer (some ⟨n6, 0, none⟩)]))
    [Inhabited (PkV x y z)] (g off size : Nat) (hg : W2.heap.size ≤ g) (hne : n3 ≠ g) : CmpLays Tryz.prog 70 #[.pointer (some ⟨n3, 0, none⟩)] PkV.enc 2 (PkV.cmp (x := x) (y := y) (z := z)) g off size w := fun m os dk _ p q => by
  have hsz := size_sortWorldK_c PkV.enc 2 w g off m dk os
  have hbs : Below W2.heap.size W2 (sortWorldK PkV.enc 2 w g off m dk os) := ⟨hb2.os, hb2.tape, hb2.output, Nat.le_trans hb2.size hsz, fun b hb => (heap_sortWorldK PkV.enc 2 w g off m dk os (Nat.lt_of_lt_of_le hb hb2.size) (by omega)).trans (hb2.block b hb)⟩
  refine calls_grow (plan3s_c _ n3 n4 n5 n6 x y z (hx.up hbs) (hy.up hbs) (hz.up hbs) (hb.up hbs) ?_ p q)
  rw [World.cell?_of_block (w := w) (heap_sortWorldK PkV.enc 2 w g off m dk os (World.block_lt_of_cell? w _ h3) hne)]
  exact h3
theorem isAggP : ∀ w, (isAgg (Tryz.sortP_ren.t 24)).run Tryz.prog w = .ok true w := fun w => by kernel_rfl
theorem sizeP : ∀ w, (Go.sizeOf (Tryz.sortP_ren.t 24)).run Tryz.prog w = .ok 2 w := fun w => by kernel_rfl
theorem pkv_list {x y z : LA} : ∀ {F : List Pk}, (∀ p ∈ F, ∃ v, pickV x.l y.l z.l p = some v ∧ v.v.may = true) → ∃ d : List (PkV x y z), d.map (PkV.p) = F
  | [], _ => ⟨[], rfl⟩
  | p :: F, h => by
    obtain ⟨d, hd⟩ := pkv_list (F := F) fun q hq => h q (List.mem_cons_of_mem _ hq)
    obtain ⟨v, h1, h2⟩ := h p List.mem_cons_self
    exact ⟨⟨p, v, h1, h2⟩ :: d, by rw [List.map_cons, hd]⟩
/-- slices.SortFunc of picks. -/
theorem sortPk_c (W2 w : World) (hb2 : Below W2.heap.size W2 w) (n3 n4 n5 n6 : Nat) (x y z : LA) (hx : x.Rd W2) (hy : y.Rd W2) (hz : z.Rd W2) (hb : Boxes3 W2 n4 n5 n6 x y z) (h3 : w.cell? ⟨n3, 0, none⟩ = some (.func (.func 68) #[] #[.pointer (some ⟨n4, 0, none⟩), .pointer (some ⟨n5, 0, none⟩), .pointer (some ⟨n6, 0, none⟩)]))
    (F : List Pk) (hF : ∀ p ∈ F, ∃ v, pickV x.l y.l z.l p = some v ∧ v.v.may = true) (base : Nat) (hbase : W2.heap.size ≤ base) (a : Option Addr) (c : Nat) (ho : OwnP w base (.slice a F.length c) F) (hn3 : ∀ g, a = some ⟨g, 0, none⟩ → n3 ≠ g) (hl : F.length ≤ 16777216) :
    Calls Tryz.prog 69 #[.slice a F.length c, .func (.func 70) #[] #[.pointer (some ⟨n3, 0, none⟩)]] w fun e w' => e = .returned (.tuple #[]) ∧
      ∃ S : List Pk, S.Perm F ∧ S.Pairwise (fun p q => ∀ a c, pickV x.v y.v z.v p = some a → pickV x.v y.v z.v q = some c → cmpV 256 a c ≤ 0) ∧ SlE Pk.enc 2 w' base w'.heap.size a S ∧ Below W2.heap.size w w' := by
  rcases Nat.eq_zero_or_pos F.length with h0 | h0
  · obtain rfl := List.eq_nil_of_length_eq_zero h0
    refine (AnyF.slices_SortFunc_none Tryz.sortP a c _ w).mono ?_
    rintro e w' ⟨rfl, rfl⟩
    exact ⟨rfl, [], .refl _, List.Pairwise.nil, SlE.nil, Below.refl _ _⟩
  · obtain ⟨g, cap, hv, hg1, hg2⟩ := ho.form h0
    injection hv with e1 e2 e3
    subst e1; subst e3
    obtain ⟨d, hd⟩ := pkv_list hF
    have hdl : d.length = F.length := by rw [← hd, List.length_map]
    have : Inhabited (PkV x y z) := ⟨d[0]'(by omega)⟩
    have eg : ∀ args w, (callFunc 70 args).run Tryz.prog w = .ok (.enter 70 args) w := enters_of Tryz.func70 (by kernel_rfl) rfl
    have hcell : ∀ o, o < F.length * 2 → w.cell? ⟨g, o, none⟩ = (F.flatMap Pk.enc)[o]? := fun o ho' => ho.cellAt o ho'
    have hH : HoldsK PkV.enc 2 w g 0 d.toArray := fun j hj => by
      rw [size_flatK, List.size_toArray] at hj
      refine ⟨?_, ho.frozenAt _⟩
      rw [Nat.zero_add, hcell _ (by omega), get_flatK _ _ _ _ (by simpa using hj)]
      have hdj : j / 2 < d.length := (Nat.div_lt_iff_lt_mul (by omega)).2 hj
      have hm : j % 2 < 2 := Nat.mod_lt _ (by omega)
      have hx2 : F[j / 2]? = some (d[j / 2]).p := by rw [← hd, List.getElem?_map, List.getElem?_eq_getElem hdj]; rfl
      rw [show j = j / 2 * 2 + j % 2 by omega, flat_get Pk.enc_len F _ _ _ hx2 hm]
      rw [getElem!_pos d.toArray ((j / 2 * 2 + j % 2) / 2) (by simp; omega), List.getElem_toArray]
      have e5 : (j / 2 * 2 + j % 2) / 2 = j / 2 := by omega
      have e6 : (j / 2 * 2 + j % 2) % 2 = j % 2 := by omega
      simp only [e5, e6]
      rw [getElem!_pos _ (j % 2) (by show j % 2 < ((d[j / 2]).p.enc).length; rw [Pk.enc_len]; exact hm)]
      exact List.getElem?_eq_getElem _
    have hcon := AnyQ.slices_SortFunc Tryz.sortP 2 isAggP sizeP PkV.enc (fun _ => rfl) (fun x v hv => by simp [PkV.enc, Pk.enc] at hv; rcases hv with rfl | rfl <;> rfl) _ (swoPkV x y z) 70 #[.pointer (some ⟨n3, 0, none⟩)] g 0 c d.toArray w eg (pkLays W2 w hb2 n3 n4 n5 n6 x y z hx hy hz hb h3 g 0 _ (by omega) (hn3 g rfl)) hH hg2 (by simp; omega)
    rw [List.size_toArray, hdl] at hcon
    refine hcon.mono ?_
    rintro e w' ⟨rfl, d', n, os, ⟨hs, -, hp⟩, hso, rfl⟩
    have hs : d'.size = d.length := by rw [hs]; exact List.size_toArray
    have hH' := holdsK_sortWorldK_c PkV.enc 2 w g 0 d.toArray d' n os hH hg2 (by simpa using hs)
    have hsize := size_sortWorldK_c PkV.enc 2 w g 0 n d' os
    have hpp : d'.toList.Perm d := by
      have e1 : d'.extract 0 F.length = d' := by rw [← hdl]; simp; omega
      have e2 : d.toArray.extract 0 F.length = d.toArray := by rw [← hdl]; simp
      rw [e1, e2] at hp
      exact hp
    refine ⟨rfl, d'.toList.map PkV.p, ?_, ?_, ?_, ?_⟩
    · rw [← hd]; exact hpp.map _
    · rw [List.pairwise_map]
      refine List.pairwise_iff_getElem.2 fun i j hi hj hij a c ha hc => ?_
      have := hso i j (Nat.zero_le _) hij (by have h := hj; rw [Array.length_toList] at h; omega)
      rw [getElem!_pos d' i (by simpa using hi), getElem!_pos d' j (by simpa using hj)] at this
      have := (ltPkV_not _ _).1 this
      rw [LA.v, LA.v, LA.v, pickV_map] at ha hc
      rw [Array.getElem_toList, d'[i].hp] at ha
      rw [Array.getElem_toList, d'[j].hp] at hc
      cases ha
      cases hc
      exact this
    · intro _
      refine ⟨g, 0, rfl, hg1, Nat.lt_of_lt_of_le hg2 hsize, Nat.lt_of_lt_of_le hg2 hsize, fun i p hp j u hu => ?_⟩
      have hj : j < 2 := by rw [← Pk.enc_len p]; exact (List.getElem?_eq_some_iff.1 hu).1
      rw [List.getElem?_map] at hp
      cases hq : d'.toList[i]? with
      | none => rw [hq] at hp; cases hp
      | some q =>
        rw [hq] at hp
        cases hp
        have hi : i < d'.size := by have := (List.getElem?_eq_some_iff.1 hq).1; simpa using this
        have hc := (hH'.cell hi hj).1
        have ex : d'[i]! = q := by
          rw [getElem!_pos d' i hi]
          have := (List.getElem?_eq_some_iff.1 hq).2
          simpa using this
        rw [hc, ex]
        show some ((Pk.enc q.p)[j]!) = some u
        rw [List.getElem!_eq_getElem?_getD, hu]; rfl
    · exact ⟨rfl, rfl, rfl, hsize, fun b hb' => heap_sortWorldK PkV.enc 2 w g 0 n d' os (by have := hb2.size; omega) (by omega)⟩
end Go.Proofs.YtjihepdjcbpgoaaGreatDoor
