/-  The rows' frame: what a law's world holds when it begins, and that nothing in it has changed.  -/
import Derived.Test.YtbfnagdpanfphaaGreatDoorRows
import Derived.Test.YtbfnagdpanfphaaGreatDoorBase
import Derived.ProofKit
import Derived.LaidMore
import Derived.OpenShut
import Derived.ChangeStays
import Derived.Stop.Joined
import Derived.Lay
namespace Go.Proofs.YtbfnagdpanfphaaGreatDoor
open Go Go.RowKit X Go.ChangeShapes Go.WideShapes Go.ChangeAt
set_option linter.unusedSimpArgs false
set_option linter.unusedVariables false
set_option linter.unusedSectionVars false
theorem own : ownKnob P.godebug = none := by kernel_rfl
theorem kids : Kids P (· < P.types.size) := kids_rows (by kernel_rfl) (by kernel_rfl)
theorem slicesB : ((List.range P.types.size).all fun t => match P.underlying t with | some (.slice e) => decide (0 < P.cellsOf e) | _ => true) = true := by kernel_rfl
theorem slicesP {t e : TypeId} (ht : t < P.types.size) (h : P.underlying t = some (.slice e)) : 0 < P.cellsOf e := by
  have := List.all_eq_true.1 slicesB t (List.mem_range.2 ht)
  rw [h] at this
  exact of_decide_eq_true this
section
variable {H : Type} {enc : TypeId × Value → H} {W W' : World}
theorem trodAll_stays (hE : Ext No W W') : ∀ {ts : List TypeId} {vs : List Value} {ds : List (DataW H)} {ps : List MemPlace}, (∀ t ∈ ts, t < P.types.size) →
    DataW.TrodAll enc P W 0 (fun _ => true) true ts vs ds ps → DataW.TrodAll enc P W' 0 (fun b => decide (b < W.heap.size)) true ts vs ds ps := by
  intro ts
  induction ts with
  | nil =>
    intro vs ds ps _ h
    obtain ⟨rfl, rfl, rfl⟩ := trodAll_nil h
    exact rfl
  | cons t ts ih =>
    intro vs ds ps ht h
    obtain ⟨v, vs', d, ds', p, q, rfl, rfl, rfl, h1, h2⟩ := trodAll_cons h
    refine ⟨p, q, ?_, ih (fun t h => ht t (by simp [h])) h2, rfl⟩
    obtain ⟨n, hn⟩ := h1
    have hlt := DataW.trod_lt n _ _ _ hn
    refine ⟨n, DataW.trod_stays kids slicesP (fun h => by cases h) (ht t (by simp)) hn (fun x hx => ?_) fun x hx => by simpa using hlt x hx⟩
    have hb := hlt x hx
    cases x with
    | cell b off =>
      show W'.cell? _ = W.cell? _
      simp only [World.cell?]
      rw [hE.same b hb fun h => h]
    | map b => exact hE.same b hb fun h => h
theorem keptBut_of {may : MemPlace → Prop} (hE : Ext No W W') : W.keptBut W' may := by
  refine ⟨hE.os, hE.output, fun i hi => ?_⟩
  have := (World.keptBut_refl W may).2.2 i hi
  rw [hE.same i hi fun h => h]
  exact this
/-- a law that answers true, and leaves all as it was -/
theorem law_post {f : Func} {s : ChangeSpec} {args : Array Value} {ds gs : List (DataW H)} {before : List MemPlace} (hr : f.resultTypes = #[T_bool]) (hp : ∀ t ∈ f.params.toList, t < P.types.size) (hv : s.vars = [])
    (hW : DataW.Whole enc P f.params.toList s.vars false W args.toList ds gs before) (hs : s.fn H ds = { results := [.lit (.bool true)], args := ds }) (hE : Ext No W W') : s.post enc P f false true false false W args (.bool true) W' := by
  have hW0 := hW
  obtain ⟨p, q, h1, h2, h3, h4, h5⟩ := hW
  rw [hv] at h2
  obtain ⟨rfl, rfl⟩ := trodVars_none h2
  refine ⟨ds, [], before, [], p, [], by simpa using hW0, ?_, ?_, ?_, keptBut_of hE, fun h => by cases h⟩
  · rw [List.append_nil, hs, hr]
    exact trodAll_mk1 (shut_bool (by kernel_rfl) _)
  · rw [List.append_nil, hs]
    exact trodAll_stays hE hp h1
  · rw [List.append_nil, hs, hv]
    rfl
end
/-! ### the table of the tens, as it is laid -/
theorem gTab : P.globalNamed "internal/strconv.uint64pow10" = some g_istrconv_uint64pow10 := by kernel_rfl
theorem tTab : (P.globals[g_istrconv_uint64pow10]?).map (·.type) = some T_a20_uint64 := by kernel_rfl
abbrev laidL : List (String × DataW Unit) := [("math/bits.deBruijn32tab", Rows.laid_math_bits_deBruijn32tab), ("math/bits.deBruijn64tab", Rows.laid_math_bits_deBruijn64tab), ("internal/strconv.uint64pow10", Rows.laid_internal_strconv_uint64pow10), ("unicode/utf8.acceptRanges", Rows.laid_unicode_utf8_acceptRanges), ("strconv.ErrRange", Rows.laid_strconv_ErrRange), ("strconv.ErrSyntax", Rows.laid_strconv_ErrSyntax), ("unicode/utf8.first", Rows.laid_unicode_utf8_first)]
theorem tab_data {H : Type} : ∃ l : List (DataW H), (Rows.laid_internal_strconv_uint64pow10 : DataW H) = .agg l ∧ ∀ i, i < 20 → l[i]? = some (.lit (.int .u64 ((10 ^ i : Nat) : Int))) := by
  refine ⟨_, rfl, fun i hi => ?_⟩
  match i, hi with
  | 0, _ => rfl | 1, _ => rfl | 2, _ => rfl | 3, _ => rfl | 4, _ => rfl | 5, _ => rfl | 6, _ => rfl | 7, _ => rfl | 8, _ => rfl | 9, _ => rfl
  | 10, _ => rfl | 11, _ => rfl | 12, _ => rfl | 13, _ => rfl | 14, _ => rfl | 15, _ => rfl | 16, _ => rfl | 17, _ => rfl | 18, _ => rfl | 19, _ => rfl
  | n + 20, h => exact absurd h (by omega)
theorem door_met (os : Os) (args : Array Value) : laidMetH P laidL ((World.laidAll P os laidL).forCall (fun _ _ => 0) ⟨#[], args, []⟩).memory := by
  rw [MakeChecks.laidMetH_plain _ _ _ (by kernel_rfl)]
  exact laidMet_laidAll _ (by kernel_rfl) (by kernel_rfl)
set_option maxRecDepth 100000 in
theorem tab_of {W : World} (h : laidMetH P laidL W) : Tab W ∧ g_istrconv_uint64pow10 < W.heap.size := by
  rw [MakeChecks.laidMetH_plain _ _ _ (by kernel_rfl)] at h
  obtain ⟨ps, ⟨g0, t0, cs0, f0, p0, q0, hg0, ht0, hv0, hd0, ⟨g1, t1, cs1, f1, p1, q1, hg1, ht1, hv1, hd1, ⟨g2, t2, cs2, f2, p2, q2, hg2, ht2, hv2, hd2, _, _⟩, _⟩, _⟩, _, _⟩ := h
  obtain rfl := Option.some.inj (gTab.symm.trans hg2)
  obtain rfl := Option.some.inj (tTab.symm.trans ht2)
  obtain ⟨xs, m1, rfl, hx1, hlen, hn3, hel⟩ := DataW.trod_array (n := 20) (e := T_uint64) (by kernel_rfl) hd2
  have c3 : P.cellsOf T_uint64 = 1 := by kernel_rfl
  obtain ⟨l, hl, hli⟩ := tab_data (H := Unit)
  have hxl : l = xs.map (·.1) := by
    have h1 := congrArg Prod.fst hx1
    have h1 : (Rows.laid_internal_strconv_uint64pow10 : DataW Unit) = .agg (xs.map (·.1)) := h1
    rw [hl] at h1
    simpa using h1
  have hcell : ∀ i, i < 20 → cs2[i]? = some (.int .u64 ((10 ^ i : Nat) : Int)) := fun i hi => by
    have h1 := hel i hi
    rw [c3, Nat.mul_one] at h1
    have h2 := hli i hi
    rw [hxl, List.getElem?_map] at h2
    cases hxi : xs[i]? with
    | none => rw [hxi] at h2; cases h2
    | some y =>
      rw [hxi] at h1 h2
      obtain ⟨k, e1, e2, _⟩ := DataW.trod_int (by kernel_rfl : P.underlying T_uint64 = some (.int .u64)) h1
      rw [e2] at h2
      have h3 : k = ((10 ^ i : Nat) : Int) := by simpa using h2
      subst h3
      have h4 := congrArg (·[0]?) e1
      simp only [List.getElem?_take, List.getElem?_drop] at h4
      simpa using h4
  refine ⟨fun i hi => ?_, ?_⟩
  · rw [World.var?_cell hg2 hv2 i]
    exact hcell i hi
  · have h0 := World.var?_cell hg2 hv2 0
    rw [hcell 0 (by omega)] at h0
    rcases Nat.lt_or_ge g_istrconv_uint64pow10 W.heap.size with h | h
    · exact h
    · simp [World.cell?, Array.getElem?_eq_none h] at h0
theorem u64U : P.underlying T_uint64 = some (.int .u64) := by kernel_rfl
theorem nat_of_wf {k : IntKind} {a : Int} (h : (Lit.int k a).wf = true) (hk : k.min = 0) : (∃ n : Nat, a = n) ∧ ∀ n : Nat, a = n → (n : Int) ≤ k.max := by
  simp only [Lit.wf, Bool.and_eq_true, decide_eq_true_eq] at h
  obtain ⟨h1, h2⟩ := h
  rw [hk] at h1
  exact ⟨⟨a.toNat, by omega⟩, fun n hn => by omega⟩
/-- the floor of a law: all that is there when it begins -/
abbrev floorOf (W : World) : Floor := ⟨W.heap.size⟩
theorem lw_of {W : World} (h : laidMetH P laidL W) : letI := floorOf W; Lw W := letI := floorOf W; ⟨Nat.le_refl _, (tab_of h).1, (tab_of h).2⟩
end Go.Proofs.YtbfnagdpanfphaaGreatDoor
