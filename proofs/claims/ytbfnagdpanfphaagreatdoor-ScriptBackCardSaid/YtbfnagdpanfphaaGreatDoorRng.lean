/-  The engine in a frame of another kind: codes without loops and drawn regions, under a fence, with deferred calls: for ranges over functions.  -/
import Derived.Test.YtbfnagdpanfphaaGreatDoorEng
import Derived.TacticsIn
import Derived.Sort.LoopGhostIn
import Derived.RangeFuncIn
import Derived.RangeFuncLeaves
import Derived.RangeFuncRecord
section
namespace Go.Proofs.YtbfnagdpanfphaaGreatDoor.X
open Go
set_option linter.unusedSimpArgs false
set_option linter.unusedVariables false
def actD (ds : List Deferred) (l : List Value) : Act := ⟨l.toArray, ds⟩
theorem actD_eval (ds : List Deferred) (l : List Value) : (actD ds l).eval = ev l := by
  funext x; cases x <;> simp [Act.eval, ev, actD]
theorem actD_put (ds : List Deferred) (l : List Value) (d : Option Tmp) (v : Value) : (actD ds l).put d v = actD ds (put l d v) := by
  cases d <;> simp [Act.put, put, actD]
/-- a fence that bars nothing -/
structure FreeF (P : Program) (F : Fence) : Prop where
  fn : ∀ f, F.fn f
  depth : F.depth = none
  calls : ∀ {m : Nat} {f : FuncId} {args : Array Value} {w : World} {R : Ending → World → Prop}, Calls P f args w R → CallsIn F m P f args w R
theorem freeW (P : Program) : FreeF P Fence.wide := ⟨fun _ => trivial, rfl, fun h => callsIn_wide.2 h⟩
theorem freeR (P : Program) (l : Nat) : FreeF P (Fence.wide.inRound l) := ⟨fun _ => trivial, rfl, fun {m f args w R} h => ((callsIn_wide (n := m)).2 h : CallsIn Fence.wide m P f args w R)⟩
/-- codes without loops and drawn regions -/
def easy : Code → Bool
  | .skip => true
  | .label _ => true
  | .exit _ => true
  | .ret => true
  | .region _ _ d => !d
  | .seq a b => easy a && easy b
  | .cond _ a b => easy a && easy b
  | .block _ a => easy a
  | _ => false
section
variable {P : Program} {F : Fence} {m n : Nat} {Q : Exit → Act → World → Prop} {w : World} {ds : List Deferred}
theorem wpIn_of_good (hF : FreeF P F) {o : Oper} {a : Act} {next : Act → World → Prop} (ho : ∀ c, o.op ≠ .defer c) (h : Good P (execOp a.eval o) w fun v w' => next (a.put o.dst v) w') : o.wpIn F m P a w next Q := by
  refine ⟨fun f _ => hF.fn f, ?_⟩
  rw [Oper.semAt_eq _ _ _ ho]
  unfold Good at h
  split at h
  · rename_i v w' hr; rw [hr]; exact h
  · rename_i w' hr; rw [hr]; exact h
  · rename_i f args w' hr
    rw [hr, Oper.uponIn_enter]
    refine ⟨fun hd => absurd hd (by rw [hF.depth]; simp), ?_⟩
    have := h.out
    simp only [Array.toArray_toList] at this
    refine hF.calls ?_
    exact this.mono fun e w'' ⟨v, he, hk⟩ => by subst he; exact hk
  · exact h.elim
theorem no_defer {o : Oper} {l : List Value} {K : Value → World → Prop} (h : vcOp P l o.op o.type w K) : ∀ c, o.op ≠ .defer c := by
  intro c e
  rw [e] at h
  simp only [vcOp] at h
theorem vcG_soundIn (hF : FreeF P F) {all : List Oper} {o : Oper} {l : List Value} {K : List Value → World → Prop} {next : Act → World → Prop} (hK : ∀ v w, K (put l o.dst v) w → next (actD ds (put l o.dst v)) w) (h : vcG P all o l w K) :
    if Region.wanted o (yielded all.toArray (actD ds l).tmps) then o.wpIn F m P (actD ds l) w next Q else (∀ f, o.about P w (actD ds l).eval = some f → F.fn f) ∧ next ((actD ds l).put o.dst undef) w := by
  unfold vcG at h
  split at h
  · rename_i hg
    simp only [Region.wanted, hg, if_true]
    refine wpIn_of_good hF (no_defer h) ?_
    rw [actD_eval]
    exact good_mono (fun v w' hk => by rw [actD_put]; exact hK _ _ hk) (vcOp_good h)
  · rename_i j want hg
    split at h
    · exact h.elim
    · rename_i d hd
      rcases skip_elim h with ⟨hb, hk⟩ | h
      · have hy := yield_at (l := l) hd
        change yielded all.toArray (actD ds l).tmps j = _ at hy
        rw [notBool_yield hb] at hy
        simp only [Region.wanted, hg, hy]
        rw [actD_put]
        cases want <;> exact ⟨fun f _ => hF.fn f, hK _ _ hk⟩
      obtain ⟨t, hv, ht, hf⟩ := if_elim h
      have hy := yield_at (l := l) hd
      change yielded all.toArray (actD ds l).tmps j = _ at hy
      rw [hv] at hy
      simp only [Region.wanted, hg, hy]
      have hne : Value.bool t ≠ undef := by unfold undef; simp
      have hs := set_same hv hne
      cases t
      · have := hf rfl
        rw [hs] at this
        cases want
        · simp only [beq_self_eq_true, if_true]
          refine wpIn_of_good hF (no_defer this) ?_
          rw [actD_eval]
          exact good_mono (fun v w' hk => by rw [actD_put]; exact hK _ _ hk) (vcOp_good this)
        · simp only [show (some false == some true) = false from rfl]
          rw [actD_put]; exact ⟨fun f _ => hF.fn f, hK _ _ this⟩
      · have := ht rfl
        rw [hs] at this
        cases want
        · simp only [show (some true == some false) = false from rfl]
          rw [actD_put]; exact ⟨fun f _ => hF.fn f, hK _ _ this⟩
        · simp only [beq_self_eq_true, if_true]
          refine wpIn_of_good hF (no_defer this) ?_
          rw [actD_eval]
          exact good_mono (fun v w' hk => by rw [actD_put]; exact hK _ _ hk) (vcOp_good this)
/-- a row of operations, and what comes behind them -/
theorem vcOps_soundIn (hF : FreeF P F) {all : List Oper} {K : List Value → World → Prop} {r2 : List Oper} : ∀ (r : List Oper) (l : List Value) (w : World), (∀ l' w, Agree r l l' → K l' w → wpListIn F m P all.toArray Q r2 (actD ds l') w) → vcOps P all K r l w →
    wpListIn F m P all.toArray Q (r ++ r2) (actD ds l) w := by
  intro r
  induction r with
  | nil => intro l w hK h; exact hK _ _ ⟨rfl, fun s _ => rfl⟩ h
  | cons o r ih =>
    intro l w hK h
    have := vcG_soundIn (m := m) (Q := Q) hF (next := wpListIn F m P all.toArray Q (r ++ r2)) (fun v w hk => ih (put l o.dst v) w (fun l' w' ha hk' => hK l' w' ⟨by rw [ha.1, put_length], fun s hs => by
      rw [ha.2 s fun o' ho' => hs o' (List.mem_cons_of_mem _ ho'), put_get_ne (hs o (by simp))]⟩ hk') hk) h
    show wpListIn F m P all.toArray Q (o :: (r ++ r2)) (actD ds l) w
    unfold wpListIn
    exact this
theorem vc_soundIn (hF : FreeF P F) : ∀ (c : Code) (he : easy c = true) (Q : Exit → List Value → World → Prop) (Q' : Exit → Act → World → Prop) (l : List Value) (w : World), l.length = n →
    (∀ e l' w', l'.length = n → (∀ s, ¬ Wr c s → l'[s]? = l[s]?) → Q e l' w' → Q' e (actD ds l') w') → vc P n c Q l w → c.wpIn F m P Q' (actD ds l) w := by
  intro c
  induction c with
  | skip => intro he Q Q' l w hl hq h; exact wpIn_skip (hq _ _ _ hl (fun _ _ => rfl) h)
  | label i => intro he Q Q' l w hl hq h; exact wpIn_label (hq _ _ _ hl (fun _ _ => rfl) h)
  | exit i => intro he Q Q' l w hl hq h; exact wpIn_exit (hq _ _ _ hl (fun _ _ => rfl) h)
  | ret => intro he Q Q' l w hl hq h; exact wpIn_ret (hq _ _ _ hl (fun _ _ => rfl) h)
  | goto i => intro he Q Q' l w hl hq h; exact h.elim
  | refuse s => intro he Q Q' l w hl hq h; exact h.elim
  | rangeFunc f p a b iha ihb => intro he Q Q' l w hl hq h; exact h.elim
  | loop c ih => intro he; cases he
  | scope c ih => intro he; cases he
  | region id ops draw =>
    intro he Q Q' l w hl hq h
    cases draw with
    | true => cases he
    | false =>
      simp only [vc] at h
      refine wpIn_region_list ?_
      have := vcOps_soundIn (m := m) (ds := ds) (Q := Q') hF (r2 := []) ops.toList l w (fun l' w' ha hk => hq _ _ _ (by rw [ha.1, hl]) (fun s hs => ha.2 s fun o ho hd => hs (wr_region ho hd)) hk) h
      simpa using this
  | seq a b iha ihb =>
    intro he Q Q' l w hl hq h
    have he : easy a = true ∧ easy b = true := by simpa [easy] using he
    simp only [vc] at h
    refine wpIn_seq ?_
    have wra : ∀ s, ¬ Wr (a.seq b) s → ¬ Wr a s := fun s hs h => hs (by unfold Wr at *; simp only [rwOf, List.mem_append]; rcases h with h | h <;> simp [h])
    have wrb : ∀ s, ¬ Wr (a.seq b) s → ¬ Wr b s := fun s hs h => hs (by unfold Wr at *; simp only [rwOf, List.mem_append]; rcases h with h | h <;> simp [h])
    split at h
    · refine iha he.1 _ _ l w hl ?_ h
      intro e l1 w1 hl1 ha1 hk
      cases e with
      | normal =>
        refine ihb he.2 Q Q' l1 w1 hl1 (fun e l2 w2 hl2 ha2 hk2 => hq e l2 w2 hl2 (fun s hs => ?_) hk2) hk
        rw [ha2 s (wrb s hs), ha1 s (wra s hs)]
      | _ => exact hq _ _ _ hl1 (fun s hs => ha1 s (wra s hs)) hk
    · obtain ⟨J, hp, hr⟩ := h.out
      refine iha he.1 _ _ l w hl ?_ hp
      intro e l1 w1 hl1 ha1 hk
      cases e with
      | normal =>
        have h2 := hr _ (fun i => l1.getD i undef) w1 hk
        rw [ovl_frame (ws := loopW a) (by rw [hl1, hl]) fun s hs => ha1 s (fun h => hs (loopW_mem.2 h))] at h2
        refine ihb he.2 Q Q' l1 w1 hl1 (fun e l2 w2 hl2 ha2 hk2 => hq e l2 w2 hl2 (fun s hs => ?_) hk2) h2
        rw [ha2 s (wrb s hs), ha1 s (wra s hs)]
      | _ => exact hq _ _ _ hl1 (fun s hs => ha1 s (wra s hs)) hk
  | cond c x y ihx ihy =>
    intro he Q Q' l w hl hq h
    have he : easy x = true ∧ easy y = true := by simpa [easy] using he
    simp only [vc] at h
    obtain ⟨t, hv, ht, hf⟩ := if_elim h
    have wrx : ∀ s, ¬ Wr (Code.cond c x y) s → ¬ Wr x s := fun s hs h => hs (by unfold Wr at *; simp only [rwOf, List.mem_append]; rcases h with h | h <;> simp [h])
    have wry : ∀ s, ¬ Wr (Code.cond c x y) s → ¬ Wr y s := fun s hs h => hs (by unfold Wr at *; simp only [rwOf, List.mem_append]; rcases h with h | h <;> simp [h])
    refine wpIn_cond (t := t) (by rw [actD_eval]; exact hv) ?_
    cases t
    · exact ihy he.2 Q Q' l w hl (fun e l2 w2 hl2 ha2 hk2 => hq e l2 w2 hl2 (fun s hs => ha2 s (wry s hs)) hk2) (hf rfl)
    · exact ihx he.1 Q Q' l w hl (fun e l2 w2 hl2 ha2 hk2 => hq e l2 w2 hl2 (fun s hs => ha2 s (wrx s hs)) hk2) (ht rfl)
  | block id c ih =>
    intro he Q Q' l w hl hq h
    simp only [vc] at h
    refine wpIn_block ?_
    refine ih he _ _ l w hl ?_ h
    intro e l1 w1 hl1 ha1 hk
    have ha : ∀ s, ¬ Wr (Code.block id c) s → l1[s]? = l[s]? := fun s hs => ha1 s hs
    cases e with
    | exit i =>
      simp only at hk
      simp only [Exit.inBlock]
      split at hk
      · rename_i hb
        rw [if_pos (Nat.eq_of_beq_eq_true hb)]
        exact hq _ _ _ hl1 ha hk
      · rename_i hb
        rw [if_neg (fun e => by subst e; simp at hb)]
        exact hq _ _ _ hl1 ha hk
    | _ => exact hq _ _ _ hl1 ha hk
/-- .. where no slot needs to be kept by name -/
theorem vcI (hF : FreeF P F) {c : Code} (he : easy c = true) {Q : Exit → List Value → World → Prop} {Q' : Exit → Act → World → Prop} {l : List Value} (hl : l.length = n) (hq : ∀ e l' w', Q e l' w' → Q' e (actD ds l') w') (h : vc P n c Q l w) : c.wpIn F m P Q' (actD ds l) w :=
  vc_soundIn hF c he Q Q' l w hl (fun e l' w' _ _ hk => hq e l' w' hk) h
/-! parts of a code -/
def sq1 : Code → Code
  | .seq a _ => a
  | c => c
def sq2 : Code → Code
  | .seq _ b => b
  | c => c
def inB : Code → Code
  | .block _ c => c
  | c => c
def inL : Code → Code
  | .loop c => c
  | c => c
def rfA : Code → Code
  | .rangeFunc _ _ a _ => a
  | c => c
def rfB : Code → Code
  | .rangeFunc _ _ _ b => b
  | c => c
def opsOf : Code → List Oper
  | .region _ ops _ => ops.toList
  | _ => []
def bodyOf (P : Program) (f : FuncId) : Code :=
  match P.funcs[f]? with
  | some fn => (match fn.body with | some c => c | none => .skip)
  | none => .skip
theorem body_of {f : FuncId} {fn : Func} (hf : P.funcs[f]? = some fn) (hb : fn.body.isSome = true) : fn.body = some (bodyOf P f) := by
  unfold bodyOf
  rw [hf]
  cases h : fn.body with
  | none => rw [h] at hb; cases hb
  | some c => simp only [h]
end
end Go.Proofs.YtbfnagdpanfphaaGreatDoor.X
end
