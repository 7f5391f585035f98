/-  The rows' frame: what a law's world holds when it begins, and that nothing in it has changed.  -/
import Derived.Test.YtidkkkdlaclolaaGreatRows
import Derived.Test.YtidkkkdlaclolaaGreatBase
import Derived.ProofKit
import Derived.LaidMore
import Derived.OpenShut
import Derived.ChangeStays
import Derived.Stop.Joined
namespace Go.Proofs.YtidkkkdlaclolaaGreat
open Go Go.RowKit X Go.ChangeShapes Go.WideShapes Go.ChangeAt
set_option linter.unusedSimpArgs false
set_option linter.unusedVariables false
set_option linter.unusedSectionVars false
theorem own : ownKnob P.godebug = none := by kernel_rfl
theorem kids : Kids P (· < P.types.size) := kids_rows (by kernel_rfl) (by kernel_rfl)
theorem slicesB : ((List.range P.types.size).all fun t => match P.underlying t with | some (.slice e) => decide (0 < P.cellsOf e) | _ => true) = true := by kernel_rfl
theorem slicesP {t e : TypeId} (ht : t < P.types.size) (h : P.underlying t = some (.slice e)) : 0 < P.cellsOf e := by
  have := List.all_eq_true.1 slicesB t (List.mem_range.2 ht)
  rw [h] at this
  exact of_decide_eq_true this
section
variable {H : Type} {enc : TypeId × Value → H} {W W' : World}
theorem trodAll_stays (hE : Ext No W W') : ∀ {ts : List TypeId} {vs : List Value} {ds : List (DataW H)} {ps : List MemPlace}, (∀ t ∈ ts, t < P.types.size) →
    DataW.TrodAll enc P W 0 (fun _ => true) true ts vs ds ps → DataW.TrodAll enc P W' 0 (fun b => decide (b < W.heap.size)) true ts vs ds ps := by
  intro ts
  induction ts with
  | nil =>
    intro vs ds ps _ h
    obtain ⟨rfl, rfl, rfl⟩ := trodAll_nil h
    exact rfl
  | cons t ts ih =>
    intro vs ds ps ht h
    obtain ⟨v, vs', d, ds', p, q, rfl, rfl, rfl, h1, h2⟩ := trodAll_cons h
    refine ⟨p, q, ?_, ih (fun t h => ht t (by simp [h])) h2, rfl⟩
    obtain ⟨n, hn⟩ := h1
    have hlt := DataW.trod_lt n _ _ _ hn
    refine ⟨n, DataW.trod_stays kids slicesP (fun h => by cases h) (ht t (by simp)) hn (fun x hx => ?_) fun x hx => by simpa using hlt x hx⟩
    have hb := hlt x hx
    cases x with
    | cell b off =>
      show W'.cell? _ = W.cell? _
      simp only [World.cell?]
      rw [hE.same b hb fun h => h]
    | map b => exact hE.same b hb fun h => h
theorem keptBut_of {may : MemPlace → Prop} (hE : Ext No W W') : W.keptBut W' may := by
  refine ⟨hE.os, hE.output, fun i hi => ?_⟩
  have := (World.keptBut_refl W may).2.2 i hi
  rw [hE.same i hi fun h => h]
  exact this
/-- a law that answers true, and leaves all as it was -/
theorem law_post {f : Func} {s : ChangeSpec} {args : Array Value} {ds gs : List (DataW H)} {before : List MemPlace} (hr : f.resultTypes = #[T_bool]) (hp : ∀ t ∈ f.params.toList, t < P.types.size) (hv : s.vars = [])
    (hW : DataW.Whole enc P f.params.toList s.vars false W args.toList ds gs before) (hs : s.fn H ds = { results := [.lit (.bool true)], args := ds }) (hE : Ext No W W') : s.post enc P f false true false false W args (.bool true) W' := by
  have hW0 := hW
  obtain ⟨p, q, h1, h2, h3, h4, h5⟩ := hW
  rw [hv] at h2
  obtain ⟨rfl, rfl⟩ := trodVars_none h2
  refine ⟨ds, [], before, [], p, [], by simpa using hW0, ?_, ?_, ?_, keptBut_of hE, fun h => by cases h⟩
  · rw [List.append_nil, hs, hr]
    exact trodAll_mk1 (shut_bool (by kernel_rfl) _)
  · rw [List.append_nil, hs]
    exact trodAll_stays hE hp h1
  · rw [List.append_nil, hs, hv]
    rfl
end
theorem u64U : P.underlying T_uint64 = some (.int .u64) := by kernel_rfl
theorem nat_of_wf {k : IntKind} {a : Int} (h : (Lit.int k a).wf = true) (hk : k.min = 0) : (∃ n : Nat, a = n) ∧ ∀ n : Nat, a = n → (n : Int) ≤ k.max := by
  simp only [Lit.wf, Bool.and_eq_true, decide_eq_true_eq] at h
  obtain ⟨h1, h2⟩ := h
  rw [hk] at h1
  exact ⟨⟨a.toNat, by omega⟩, fun n hn => by omega⟩
/-- the floor of a law: all that is there when it begins -/
abbrev floorOf (W : World) : Floor := ⟨W.heap.size⟩
theorem lw_of (W : World) : letI := floorOf W; Lw W := letI := floorOf W; ⟨Nat.le_refl _⟩
end Go.Proofs.YtidkkkdlaclolaaGreat
