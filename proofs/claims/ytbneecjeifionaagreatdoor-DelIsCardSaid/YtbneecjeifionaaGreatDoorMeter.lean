/-  the meter: what it counts.  -/
import Derived.Test.YtbneecjeifionaaGreatDoorKeys
namespace Go.Proofs.YtbneecjeifionaaGreatDoor
open Go Go.RowKit X
set_option linter.unusedSimpArgs false
set_option linter.unusedVariables false
set_option linter.unusedSectionVars false
variable [Floor]

/-- a meter, or none -/
def mv (mt : Option Nat) : Value := .pointer (mt.map fun b => ⟨b, 0, none⟩)
/-- it has counted k (as far as 64 bits go) -/
structure Mt (w : World) (mt : Option Nat) (k : Nat) : Prop where
  fl : Floor.n ≤ w.heap.size
  at_ : ∀ b, mt = some b → Floor.n ≤ b ∧ Blk w b [.int .i64 (IntKind.i64.wrap k)] T_meter_Meter
/-- the meter's own block -/
def MX (mt : Option Nat) : Nat → Prop := fun b => mt = some b
theorem Mt.none {w : World} {k : Nat} (h : Floor.n ≤ w.heap.size) : Mt w none k := ⟨h, fun _ h => by cases h⟩
theorem Mt.blk {w : World} {b k : Nat} (h : Mt w (some b) k) : Blk w b [.int .i64 (IntKind.i64.wrap k)] T_meter_Meter := (h.at_ b rfl).2
theorem MX.none : MX none = No := by funext b; simp [MX, No]
theorem Mt.ext {X : Nat → Prop} {w w' : World} {mt : Option Nat} {k : Nat} (h : Mt w mt k) (e : Ext X w w') (hx : ∀ b, mt = some b → ¬ X b) : Mt w' mt k :=
  ⟨Nat.le_trans h.fl e.size, fun b hb => ⟨(h.at_ b hb).1, (h.at_ b hb).2.ext e (hx b hb)⟩⟩
theorem Mt.extN {w w' : World} {mt : Option Nat} {k : Nat} (h : Mt w mt k) (e : Ext No w w') : Mt w' mt k := h.ext e fun _ _ h => h
/-- a block of another type is not the meter's -/
theorem Mt.ne {w : World} {mt : Option Nat} {k b : Nat} {cs : List Value} {T : TypeId} (h : Mt w mt k) (hb : Blk w b cs T) (ht : T ≠ T_meter_Meter) : ¬ MX mt b := by
  intro e
  cases mt with
  | none => cases e
  | some c =>
    simp only [MX, Option.some.injEq] at e
    subst e
    exact ht (hb.inj h.blk).2
theorem Mt.nbt {T : TypeId} {w : World} {mt : Option Nat} {k : Nat} (h : Mt w mt k) (ht : T ≠ T_meter_Meter) : NBT T w (MX mt) := fun b hb _ => by
  simp only [MX] at hb
  exact ⟨(h.at_ b hb).1, _, _, (h.at_ b hb).2, ht.symm⟩
theorem Mt.nb {w : World} {mt : Option Nat} {k : Nat} (h : Mt w mt k) : NB w (MX mt) := h.nbt (by decide)
theorem Bs.mt {w w' : World} {v : Value} {bs : List UInt8} {mt : Option Nat} {k : Nat} (h : Bs w v bs) (e : Ext (MX mt) w w') (hm : Mt w mt k) : Bs w' v bs := h.ext e hm.nb

theorem wrap_wrap (a b : Int) : IntKind.i64.wrap (IntKind.i64.wrap a + b) = IntKind.i64.wrap (a + b) := by
  simp only [IntKind.wrap_i64]
  omega
set_option maxRecDepth 100000 in
theorem c_Made {w : World} {mt : Option Nat} {k : Nat} (hm : Mt w mt k) : Ret P n_meter_Meter_Made [mv mt, .int .i64 1] w fun v w' => Mt w' mt (k + 1) ∧ Ext (MX mt) w w' := by
  refine W_meter_Meter_Made ?_
  refine xjd ?_
  cases mt with
  | none => exact fun g => ⟨Mt.none hm.fl, Ext.refl _ _⟩
  | some b =>
    intro g
    have hm' : Blk w b [.int .i64 (IntKind.i64.wrap k)] T_meter_Meter := hm.blk
    show Ret P n_atomic_Int64_Add [.pointer (some ⟨b, 0, none⟩), .int .i64 1] w _
    refine W_atomic_Int64_Add ?_
    simp only [S_atomic_Int64_Add, xAt]
    refine xext (e := Extern.Atomic.update (Op.intArith .add) .i64 true) (by kernel_rfl) (by kernel_rfl) (by kernel_rfl) ?_
    have hc : w.cell? ⟨b, 0, none⟩ = some (.int .i64 (IntKind.i64.wrap k)) := by rw [hm'.cell]; rfl
    refine ⟨.int .i64 (IntKind.i64.wrap (k + 1)), w.setCell ⟨b, 0, none⟩ (.int .i64 (IntKind.i64.wrap (k + 1))), ?_, ?_⟩
    · change Sem.run P (do
        let a' ← asAddr (.pointer (some ⟨b, 0, none⟩))
        let old ← Extern.Atomic.read (.int .i64) a'
        let new ← Op.intArith .add .i64 (← asInt old) (← asInt (.int .i64 1))
        store a' new .atomic
        pure (if true = true then new else old)) w = _
      have hs : (Op.intArith .add .i64 (IntKind.i64.wrap k) 1).run P w = .ok (.int .i64 (IntKind.i64.wrap (k + 1))) w := by
        have := wrap_wrap k 1
        simp [Op.intArith, this]
      simp [Extern.Atomic.read, asAddr, asInt, asIntOf, hc, hm'.frozen, hs, run_store P w ⟨b, 0, none⟩ (.int .i64 (IntKind.i64.wrap (k + 1))) .atomic rfl, Result.andThen]
    · refine ⟨?_, setCell_ext.mono fun c _ h => by subst h; rfl⟩
      have := setCell_blk (o := 0) (v := .int .i64 (IntKind.i64.wrap (k + 1))) hm'
      refine ⟨by simpa using hm.fl, fun b' hb' => ?_⟩
      cases hb'
      exact ⟨(hm.at_ b rfl).1, by simpa using this⟩
set_option maxRecDepth 100000 in
theorem c_MCount {w : World} {b : Nat} {k : Nat} (hm : Mt w (some b) k) : Ret P n_meter_Meter_Count [mv (some b)] w fun v w' => v = .int .i64 (IntKind.i64.wrap k) ∧ w' = w := by
  refine W_meter_Meter_Count ?_
  show Ret P n_atomic_Int64_Load [.pointer (some ⟨b, 0, none⟩)] w _
  refine W_atomic_Int64_Load ?_
  simp only [S_atomic_Int64_Load, xAt]
  refine xext (e := Extern.Atomic.loadT (.int .i64)) (by kernel_rfl) (by kernel_rfl) (by kernel_rfl) ?_
  have hm' : Blk w b [.int .i64 (IntKind.i64.wrap k)] T_meter_Meter := hm.blk
  have hc : w.cell? ⟨b, 0, none⟩ = some (.int .i64 (IntKind.i64.wrap k)) := by rw [hm'.cell]; rfl
  refine ⟨_, w, ?_, rfl, rfl⟩
  change Sem.run P (do Extern.Atomic.read (.int .i64) (← asAddr (.pointer (some ⟨b, 0, none⟩)))) w = _
  simp [Extern.Atomic.read, asAddr, hc, Result.andThen]
end Go.Proofs.YtbneecjeifionaaGreatDoor
