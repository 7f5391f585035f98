/-  the meter: what it counts.  -/
import Derived.Test.YtbleadagnpckbaaGreatDoorKeys
namespace Go.Proofs.YtbleadagnpckbaaGreatDoor
open Go Go.RowKit X
set_option linter.unusedSimpArgs false
set_option linter.unusedVariables false
set_option linter.unusedSectionVars false
variable [Floor]

/-- where a meter stands: its block, what else is in the block, the block's type (a meter, or a world) -/
structure Mtr where
  b : Nat
  rest : List Value
  ty : TypeId
abbrev mtr (b : Nat) : Mtr := ⟨b, [], T_meter_Meter⟩
instance : Coe Nat Mtr := ⟨mtr⟩
abbrev NoM (T : TypeId) : Prop := T ≠ T_meter_Meter ∧ T ≠ T_tree_World
/-- a meter, or none -/
def mv (mt : Option Mtr) : Value := .pointer (mt.map fun m => ⟨m.b, 0, none⟩)
/-- it has counted k (as far as 64 bits go) -/
structure Mt (w : World) (mt : Option Mtr) (k : Nat) : Prop where
  fl : Floor.n ≤ w.heap.size
  at_ : ∀ m, mt = some m → Floor.n ≤ m.b ∧ (m.ty = T_meter_Meter ∨ m.ty = T_tree_World) ∧ Blk w m.b (.int .i64 (IntKind.i64.wrap k) :: m.rest) m.ty
/-- the meter's own block -/
def MX : Option Mtr → Nat → Prop
  | none, _ => False
  | some m, b => m.b = b
theorem MX.get {mt : Option Mtr} {b : Nat} (h : MX mt b) : ∃ m, mt = some m ∧ m.b = b := by
  cases mt with
  | none => exact h.elim
  | some m => exact ⟨m, rfl, h⟩
theorem Mt.none {w : World} {k : Nat} (h : Floor.n ≤ w.heap.size) : Mt w none k := ⟨h, fun _ h => by cases h⟩
theorem Mt.blk {w : World} {m : Mtr} {k : Nat} (h : Mt w (some m) k) : Blk w m.b (.int .i64 (IntKind.i64.wrap k) :: m.rest) m.ty := (h.at_ m rfl).2.2
theorem Mt.flX {w : World} {mt : Option Mtr} {k b : Nat} (h : Mt w mt k) (hb : MX mt b) : Floor.n ≤ b := by
  obtain ⟨m, rfl, rfl⟩ := hb.get
  exact (h.at_ m rfl).1
theorem MX.none : MX none = No := by funext b; rfl
theorem Mt.ext {X : Nat → Prop} {w w' : World} {mt : Option Mtr} {k : Nat} (h : Mt w mt k) (e : Ext X w w') (hx : ∀ b, MX mt b → ¬ X b) : Mt w' mt k :=
  ⟨Nat.le_trans h.fl e.size, fun m hm => ⟨(h.at_ m hm).1, (h.at_ m hm).2.1, (h.at_ m hm).2.2.ext e (hx m.b (by subst hm; rfl))⟩⟩
theorem Mt.extN {w w' : World} {mt : Option Mtr} {k : Nat} (h : Mt w mt k) (e : Ext No w w') : Mt w' mt k := h.ext e fun _ _ h => h
/-- a block of another type is not the meter's -/
theorem Mt.ne {w : World} {mt : Option Mtr} {k b : Nat} {cs : List Value} {T : TypeId} (h : Mt w mt k) (hb : Blk w b cs T) (ht : NoM T) : ¬ MX mt b := by
  intro e
  obtain ⟨m, rfl, rfl⟩ := e.get
  have e := (hb.inj h.blk).2
  rcases (h.at_ m rfl).2.1 with h1 | h1
  · exact ht.1 (e.trans h1)
  · exact ht.2 (e.trans h1)
theorem Mt.nbt {T : TypeId} {w : World} {mt : Option Mtr} {k : Nat} (h : Mt w mt k) (ht : NoM T) : NBT T w (MX mt) := fun b hb _ => by
  obtain ⟨m, rfl, rfl⟩ := hb.get
  refine ⟨(h.at_ m rfl).1, _, _, h.blk, fun e => ?_⟩
  rcases (h.at_ m rfl).2.1 with h1 | h1
  · exact ht.1 (e.symm.trans h1)
  · exact ht.2 (e.symm.trans h1)
theorem Mt.nb {w : World} {mt : Option Mtr} {k : Nat} (h : Mt w mt k) : NB w (MX mt) := h.nbt (by decide)
theorem Bs.mt {w w' : World} {v : Value} {bs : List UInt8} {mt : Option Mtr} {k : Nat} (h : Bs w v bs) (e : Ext (MX mt) w w') (hm : Mt w mt k) : Bs w' v bs := h.ext e hm.nb

theorem wrap_wrap (a b : Int) : IntKind.i64.wrap (IntKind.i64.wrap a + b) = IntKind.i64.wrap (a + b) := by
  simp only [IntKind.wrap_i64]
  omega
set_option maxRecDepth 100000 in
theorem c_Made {w : World} {mt : Option Mtr} {k : Nat} (hm : Mt w mt k) : Ret P n_meter_Meter_Made [mv mt, .int .i64 1] w fun v w' => Mt w' mt (k + 1) ∧ Ext (MX mt) w w' := by
  refine W_meter_Meter_Made ?_
  refine xjd ?_
  cases mt with
  | none => exact fun g => ⟨Mt.none hm.fl, Ext.refl _ _⟩
  | some m =>
    intro g
    have hm' := hm.blk
    obtain ⟨hfl, hty, -⟩ := hm.at_ m rfl
    obtain ⟨b, rest, ty⟩ := m
    show Ret P n_atomic_Int64_Add [.pointer (some ⟨b, 0, none⟩), .int .i64 1] w _
    refine W_atomic_Int64_Add ?_
    simp only [S_atomic_Int64_Add, xAt]
    refine xext (e := Extern.Atomic.update (Op.intArith .add) .i64 true) (by kernel_rfl) (by kernel_rfl) (by kernel_rfl) ?_
    have hc : w.cell? ⟨b, 0, none⟩ = some (.int .i64 (IntKind.i64.wrap k)) := by rw [hm'.cell]; rfl
    refine ⟨.int .i64 (IntKind.i64.wrap (k + 1)), w.setCell ⟨b, 0, none⟩ (.int .i64 (IntKind.i64.wrap (k + 1))), ?_, ?_⟩
    · change Sem.run P (do
        let a' ← asAddr (.pointer (some ⟨b, 0, none⟩))
        let old ← Extern.Atomic.read (.int .i64) a'
        let new ← Op.intArith .add .i64 (← asInt old) (← asInt (.int .i64 1))
        store a' new .atomic
        pure (if true = true then new else old)) w = _
      have hs : (Op.intArith .add .i64 (IntKind.i64.wrap k) 1).run P w = .ok (.int .i64 (IntKind.i64.wrap (k + 1))) w := by
        have := wrap_wrap k 1
        simp [Op.intArith, this]
      simp [Extern.Atomic.read, asAddr, asInt, asIntOf, hc, hm'.frozen, hs, run_store P w ⟨b, 0, none⟩ (.int .i64 (IntKind.i64.wrap (k + 1))) .atomic rfl, Result.andThen]
    · refine ⟨?_, setCell_ext.mono fun c _ h => by subst h; rfl⟩
      have := setCell_blk (o := 0) (v := .int .i64 (IntKind.i64.wrap (k + 1))) hm'
      refine ⟨by simpa using hm.fl, fun m' hm2 => ?_⟩
      cases hm2
      exact ⟨hfl, hty, by simpa using this⟩
set_option maxRecDepth 100000 in
theorem c_MCount {w : World} {m : Mtr} {k : Nat} (hm : Mt w (some m) k) : Ret P n_meter_Meter_Count [mv (some m)] w fun v w' => v = .int .i64 (IntKind.i64.wrap k) ∧ w' = w := by
  have hm' := hm.blk
  obtain ⟨b, rest, ty⟩ := m
  refine W_meter_Meter_Count ?_
  show Ret P n_atomic_Int64_Load [.pointer (some ⟨b, 0, none⟩)] w _
  refine W_atomic_Int64_Load ?_
  simp only [S_atomic_Int64_Load, xAt]
  refine xext (e := Extern.Atomic.loadT (.int .i64)) (by kernel_rfl) (by kernel_rfl) (by kernel_rfl) ?_
  have hc : w.cell? ⟨b, 0, none⟩ = some (.int .i64 (IntKind.i64.wrap k)) := by rw [hm'.cell]; rfl
  refine ⟨_, w, ?_, rfl, rfl⟩
  change Sem.run P (do Extern.Atomic.read (.int .i64) (← asAddr (.pointer (some ⟨b, 0, none⟩)))) w = _
  simp [Extern.Atomic.read, asAddr, hc, Result.andThen]
end Go.Proofs.YtbleadagnpckbaaGreatDoor
