/-  law19: versions: TreePlays.  -/
import Derived.Test.YthnegkjhciakpaaGreatDoorL19
import Derived.Test.YthnegkjhciakpaaGreatDoorVer2
import Derived.Test.YthnegkjhciakpaaGreatDoorRows2
namespace Go.Proofs.YthnegkjhciakpaaGreatDoor
open Go Go.RowKit X
set_option linter.unusedSimpArgs false
set_option linter.unusedVariables false
set_option linter.unusedSectionVars false
variable [Floor]
namespace law19
/-- a step, as it is handed over -/
structure Stp where
  d : Nat
  i : Nat
  k : Key
  x : Nat
  al : Kv
def Sts (w : World) (v : Value) (ss : List Stp) : Prop := ∃ cells : List Value, Sl w (fun b _ => b < Floor.n) v 5 ss.length cells ∧
  ∀ (m : Nat) (s : Stp), ss[m]? = some s → ∃ kv av, (cells.drop (m * 5)).take 5 = [.int .u8 s.d, .int .u16 s.i, kv, u64 s.x, av] ∧ Bs w kv s.k ∧ Ps w av s.al ∧ s.d < 256 ∧ s.i < 65536 ∧ s.x < 18446744073709551616
section
variable {w w' : World} {v : Value} {ss : List Stp}
theorem Sts.extN (h : Sts w v ss) (e : Ext No w w') : Sts w' v ss := let ⟨cells, h1, h2⟩ := h; ⟨cells, h1.extN e, fun m s hs => let ⟨kv, av, h3, h4, h5, h6⟩ := h2 m s hs; ⟨kv, av, h3, h4.extN e, h5.extN e, h6⟩⟩
theorem Sts.len {K : Value → Prop} (h : Sts w v ss) (k : K (.int .i64 ss.length)) : xLen v K := let ⟨_, h1, _⟩ := h; xLen_sl h1 k
theorem Sts.rd {K : Value → Prop} {kd : IntKind} {i : Int} (h : Sts w v ss) (m : Nat) (hi : i = (m : Int)) (hm : m < ss.length) (k : ∀ kv av, Bs w kv ss[m].k → Ps w av ss[m].al → ss[m].d < 256 → ss[m].i < 65536 → ss[m].x < 18446744073709551616 → K (.agg #[.int .u8 ss[m].d, .int .u16 ss[m].i, kv, u64 ss[m].x, av])) : xIxS v (.int kd i) 5 fun u => xAt u fun a => XLdN w a 5 K := by
  obtain ⟨cells, h1, h2⟩ := h
  obtain ⟨kv, av, h3, h4, h5, h6, h7, h8⟩ := h2 m ss[m] (List.getElem?_eq_getElem hm)
  refine h1.rdN m hi hm ?_
  rw [h3]
  exact k kv av h4 h5 h6 h7 h8
theorem Sts.take {K : Value → Prop} {kd : IntKind} {i : Int} (h : Sts w v ss) (m : Nat) (hi : i = (m : Int)) (hm : m ≤ ss.length) (k : ∀ v', Sts w v' (ss.take m) → K v') : xCutS 5 v none (some (.int kd i)) none K := by
  obtain ⟨cells, h1, h2⟩ := h
  refine Sl.cutH h1 m hi hm fun v' hv => k v' ⟨_, by rw [List.length_take, Nat.min_eq_left hm]; exact hv, fun q s hs => ?_⟩
  rw [List.getElem?_take] at hs
  split at hs
  · rename_i hq
    obtain ⟨kv, av, h3, h4⟩ := h2 q s hs
    refine ⟨kv, av, ?_, h4⟩
    rw [← h3, List.drop_take, List.take_take, Nat.min_eq_left (by omega)]
  · cases hs
/-- steps that are few and short -/
structure Few (ss : List Stp) : Prop where
  n : ss.length ≤ 40
  s : ∀ s ∈ ss, s.k.length ≤ 40 ∧ s.al.length ≤ 60 ∧ ∀ p ∈ s.al, p.1.length ≤ 300
theorem c_long (h : Sts w v ss) : Ret P n_law19_long [v] w fun r w' => ∃ b, r = .bool b ∧ Ext No w w' ∧ (b = false → Few ss) := by
  refine W_law19_long ?_
  refine h.len ?_
  have hmin : (if ((40 : Nat) : Int) < ((ss.length : Nat) : Int) then ((40 : Nat) : Int) else ((ss.length : Nat) : Int)) = ((min ss.length 40 : Nat) : Int) := by
    split <;> omega
  show xCutS 5 v none (some (.int .i64 (if ((40 : Nat) : Int) < ((ss.length : Nat) : Int) then ((40 : Nat) : Int) else ((ss.length : Nat) : Int)))) none _
  rw [hmin]
  refine h.take (min ss.length 40) rfl (by omega) fun v' hv' => ?_
  refine hv'.len ?_
  have htl : (ss.take (min ss.length 40)).length ≤ 40 := by rw [List.length_take]; omega
  refine xloop (fun n vs w' => ∃ i : Nat, vs = [.int .i64 i, .bool false] ∧ n = (ss.take (min ss.length 40)).length - i ∧ i ≤ (ss.take (min ss.length 40)).length ∧ (∀ s ∈ (ss.take (min ss.length 40)).take i, s.k.length ≤ 40 ∧ s.al.length ≤ 60 ∧ ∀ p ∈ s.al, p.1.length ≤ 300) ∧ Ext No w w') (ss.take (min ss.length 40)).length
    ⟨0, rfl, rfl, by omega, (fun s hs => by simp at hs), Ext.refl _ _⟩ ?_
  rintro n vs g w1 ⟨i, rfl, rfl, hi, hall, he⟩
  unfold S_law19_long_l1
  refine xifD (fun hlt => ?_) fun hge => ?_
  · have hil : i < (ss.take (min ss.length 40)).length := by omega
    refine (hv'.extN he).rd i rfl hil fun kv av hkv hav h1 h2 h3 => ?_
    refine xnew fun b w2 hb hbl hz2 he2 => ?_
    refine xstoreVar hbl (by kernel_rfl) (by simp) ?_ fun w3 hb3 hz3 he3 => ?_
    · intro u hu
      simp only [List.mem_cons, List.mem_nil_iff, or_false] at hu
      rcases hu with rfl | rfl | rfl | rfl | rfl
      · rfl
      · rfl
      · exact hkv.one1
      · rfl
      · exact hav.one1
    have hE3 : Ext No w1 w3 := he2.trans1 he3 (by omega)
    have hb3 : Blk w3 b [.int .u8 (ss.take (min ss.length 40))[i].d, .int .u16 (ss.take (min ss.length 40))[i].i, kv, u64 (ss.take (min ss.length 40))[i].x, av] T_ref19_Step := by simpa using hb3
    refine xj (fun vs w' => ∃ q, vs = [.bool q] ∧ Ext No w1 w' ∧ (q = false → (ss.take (min ss.length 40))[i].k.length ≤ 40 ∧ (ss.take (min ss.length 40))[i].al.length ≤ 60 ∧ ∀ p ∈ (ss.take (min ss.length 40))[i].al, p.1.length ≤ 300)) ?_ ?_
    · refine hb3.ld (o := 2) (v := kv) rfl ?_
      refine hkv.len ?_
      refine xifD (fun h => ⟨true, rfl, hE3, fun h => by cases h⟩) fun h => ?_
      refine hb3.ld (o := 4) (v := av) rfl ?_
      refine (c_far (m := 60) (hav.extN hE3) (by omega)).mono ?_
      rintro _ w4 ⟨q, rfl, he4, hq⟩
      exact ⟨q, rfl, hE3.transN he4, fun h => ⟨by omega, (hq h).1, (hq h).2⟩⟩
    rintro vs g w4 ⟨q, rfl, he4, hq⟩
    cases q with
    | true => exact xifT rfl ⟨true, rfl, he.transN he4, fun h => by cases h⟩
    | false =>
      refine xifF rfl ?_
      refine xi (r := ((i + 1 : Nat) : Int)) (by rw [wrapI (by omega)]; omega) ?_
      refine xnext ((ss.take (min ss.length 40)).length - (i + 1)) (by omega) ⟨i + 1, rfl, rfl, by omega, fun s hs => ?_, he.transN he4⟩
      rw [← List.take_append_getElem hil] at hs
      rcases List.mem_append.1 hs with e | e
      · exact hall s e
      · rw [List.mem_singleton.1 e]; exact hq rfl
  · have hi' : i = (ss.take (min ss.length 40)).length := by omega
    subst hi'
    rw [List.take_length] at hall
    refine h.len ?_
    refine ⟨_, rfl, he, fun hq => ?_⟩
    have hq := of_decide_eq_false hq
    rw [List.take_of_length_le (by omega)] at hall
    exact ⟨by omega, hall⟩
end
/-- what a step makes of pairs; nothing: it is refused -/
def stepK (s : Stp) (l : Kv) : Option Kv :=
  if s.d % 6 = 0 then (if Rises s.al then some s.al else none) else if s.d % 6 = 1 then some (insK l s.k s.x) else if s.d % 6 = 2 then some (dropK s.k l) else if s.d % 6 = 3 then some (subK s.k l) else if s.d % 6 = 4 then some (stripK s.k l) else some (underK s.k l)
section
variable {B : Nat} {w w1 w2 : World} {wb n j vb : Nat} {t : T} {l : Kv} {V : Nat → Option (T × Kv)} {kv av vl : Value} {s : Stp}
abbrev stV (s : Stp) (kv av : Value) : Value := .agg #[.int .u8 s.d, .int .u16 s.i, kv, u64 s.x, av]
theorem c_after (h : VI B w wb n j V) (hv : V vb = some (t, l)) (hk : Bs w kv s.k) (ha : Ps w av s.al) (hx : s.x < 18446744073709551616) (hkl : s.k.length ≤ 40) (hal : s.al.length ≤ 60) (hak : ∀ p ∈ s.al, p.1.length ≤ 300) (hl : l.length ≤ 1000) (hlk : ∀ p ∈ l, p.1.length ≤ 60000) (hj : j + 1 < 18446744073709551616) :
    Ret P n_law19_after [rp wb, rp vb, stV s kv av] w fun r w' => VE B w w' ∧ ((∃ l' vb', stepK s l = some l' ∧ r = .tuple #[rp vb', .int .i64 0] ∧ Made B w' wb (j + 1) V l' vb') ∨ (stepK s l = none ∧ r = .tuple #[.pointer none, .int .i64 12] ∧ ∃ n', VI B w' wb n' (j + 1) V)) := by
  refine W_law19_after ?_
  refine xnew fun b w1 hb hblk hz he1 => ?_
  have hS : Blk w1 b [.int .u8 s.d, .int .u16 s.i, kv, u64 s.x, av] T_ref19_Step := hblk
  have h1 := h.extN he1
  have hk1 := hk.extN he1
  have hE1 : VE B w w1 := VE.no he1
  refine hS.ld (o := 0) (v := .int .u8 s.d) rfl ?_
  refine xrem (a := s.d) (b := 6) (by omega) ?_
  refine xifE (fun h0 => ?_) fun h0 => ?_
  · refine hS.ld (o := 4) (v := av) rfl ?_
    refine (c_pairs (ha.extN he1) (by omega)).mono ?_
    rintro pv w2 ⟨hpv, he2⟩
    have h2 := h1.extN he2
    by_cases hr : Rises s.al
    · refine (c_FromE h2 hpv ⟨hr, fun p hp => by have := hak p hp; omega, by omega⟩ hj).mono ?_
      rintro _ w3 ⟨hE3, vb', rfl, hM⟩
      exact ⟨(hE1.transN he2).trans hE3, .inl ⟨_, vb', by unfold stepK; rw [if_pos (by omega), if_pos hr], rfl, hM⟩⟩
    · refine (c_FromNo h2 hpv (by omega) (fun p hp => by have := hak p hp; omega) hr hj).mono ?_
      rintro _ w3 ⟨rfl, hI3, hE3⟩
      exact ⟨(hE1.transN he2).trans hE3, .inr ⟨by unfold stepK; rw [if_pos (by omega), if_neg hr], rfl, n, hI3⟩⟩
  refine xifE (fun h1' => ?_) fun h1' => ?_
  · refine hS.ld (o := 2) (v := kv) rfl ?_
    refine hS.ld (o := 3) (v := u64 s.x) rfl ?_
    refine (c_VPutE h1 hv hk1 (by omega) hx hj (by omega)).mono ?_
    rintro _ w3 ⟨hE3, vb', rfl, hM⟩
    exact ⟨hE1.trans hE3, .inl ⟨_, vb', by unfold stepK; rw [if_neg (by omega), if_pos (by omega)], rfl, hM⟩⟩
  refine xifE (fun h2' => ?_) fun h2' => ?_
  · refine hS.ld (o := 2) (v := kv) rfl ?_
    refine (c_VDelE h1 hv hk1 (by omega) hj).mono ?_
    rintro _ w3 ⟨hE3, vb', y, rfl, hM⟩
    exact ⟨hE1.trans hE3, .inl ⟨_, vb', by unfold stepK; rw [if_neg (by omega), if_neg (by omega), if_pos (by omega)], rfl, hM⟩⟩
  refine xifE (fun h3' => ?_) fun h3' => ?_
  · refine hS.ld (o := 2) (v := kv) rfl ?_
    refine (c_VSubE h1 hv hk1 (by omega) hj).mono ?_
    rintro _ w3 ⟨hE3, vb', rfl, hM⟩
    exact ⟨hE1.trans hE3, .inl ⟨_, vb', by unfold stepK; rw [if_neg (by omega), if_neg (by omega), if_neg (by omega), if_pos (by omega)], rfl, hM⟩⟩
  refine xifE (fun h4' => ?_) fun h4' => ?_
  · refine hS.ld (o := 2) (v := kv) rfl ?_
    refine (c_VStripE h1 hv hk1 (by omega) hj).mono ?_
    rintro _ w3 ⟨hE3, vb', rfl, hM⟩
    exact ⟨hE1.trans hE3, .inl ⟨_, vb', by unfold stepK; rw [if_neg (by omega), if_neg (by omega), if_neg (by omega), if_neg (by omega), if_pos (by omega)], rfl, hM⟩⟩
  · refine hS.ld (o := 2) (v := kv) rfl ?_
    refine (c_VUnderE h1 hv hk1 (fun p hp => by have := hlk p hp; omega) (by omega) hj).mono ?_
    rintro _ w3 ⟨hE3, vb', rfl, hM⟩
    exact ⟨hE1.trans hE3, .inl ⟨_, vb', by unfold stepK; rw [if_neg (by omega), if_neg (by omega), if_neg (by omega), if_neg (by omega), if_neg (by omega)], rfl, hM⟩⟩
theorem c_refAfter (hfl : Floor.n ≤ w.heap.size) (hl : Ps w vl l) (hpr : Pr l) (hk : Bs w kv s.k) (ha : Ps w av s.al) (hx : s.x < 18446744073709551616) (hkl : s.k.length ≤ 40) (hal : s.al.length ≤ 60) (hak : ∀ p ∈ s.al, p.1.length ≤ 300) (hlk : ∀ p ∈ l, p.1.length ≤ 60000) :
    Ret P n_ref19_After [vl, stV s kv av] w fun r w' => Ext No w w' ∧ ((∃ l' v', stepK s l = some l' ∧ r = .tuple #[v', .int .i64 0] ∧ Ps w' v' l') ∨ (stepK s l = none ∧ ∃ v', r = .tuple #[v', .int .i64 12])) := by
  refine W_ref19_After ?_
  refine xnew fun b w1 hb hblk hz he1 => ?_
  have hS : Blk w1 b [.int .u8 s.d, .int .u16 s.i, kv, u64 s.x, av] T_ref19_Step := hblk
  have hk1 := hk.extN he1
  have hl1 := hl.extN he1
  have ha1 := ha.extN he1
  refine hS.ld (o := 0) (v := .int .u8 s.d) rfl ?_
  refine xrem (a := s.d) (b := 6) (by omega) ?_
  refine xifE (fun h0 => ?_) fun h0 => ?_
  · refine hS.ld (o := 4) (v := av) rfl ?_
    refine (c_rCheck ha1 (by omega) (fun p hp => by have := hak p hp; omega)).mono ?_
    rintro _ w2 ⟨rfl, he2⟩
    by_cases hr : Rises s.al
    · rw [if_pos hr]
      refine xifF rfl ?_
      refine (hS.ext he2 fun h => h).ld (o := 4) (v := av) rfl ?_
      exact ⟨he1.transN he2, .inl ⟨_, av, by unfold stepK; rw [if_pos (by omega), if_pos hr], rfl, ha1.extN he2⟩⟩
    · rw [if_neg hr]
      exact xifT rfl ⟨he1.transN he2, .inr ⟨by unfold stepK; rw [if_pos (by omega), if_neg hr], _, rfl⟩⟩
  refine hS.ld (o := 0) (v := .int .u8 s.d) rfl ?_
  refine xrem (a := s.d) (b := 6) (by omega) ?_
  refine xifE (fun h1' => ?_) fun h1' => ?_
  · refine hS.ld (o := 2) (v := kv) rfl ?_
    refine hS.ld (o := 3) (v := u64 s.x) rfl ?_
    refine (c_r15Put hl1 hk1 hx hpr.many hpr.keys (by omega)).mono ?_
    rintro v' w2 ⟨hps, he2⟩
    rw [← insK_sort _ hpr.rises] at hps
    exact ⟨he1.transN he2, .inl ⟨_, v', by unfold stepK; rw [if_neg (by omega), if_pos (by omega)], rfl, hps⟩⟩
  refine xifE (fun h2' => ?_) fun h2' => ?_
  · refine hS.ld (o := 2) (v := kv) rfl ?_
    refine (c_r16Del hl1 hk1 hpr.many hpr.keys).mono ?_
    rintro _ w2 ⟨out, rfl, hso, he2⟩
    exact ⟨he1.transN he2, .inl ⟨_, out, by unfold stepK; rw [if_neg (by omega), if_neg (by omega), if_pos (by omega)], rfl, hso.ps he2 (.inr rfl)⟩⟩
  refine xifE (fun h3' => ?_) fun h3' => ?_
  · refine hS.ld (o := 2) (v := kv) rfl ?_
    refine (c_r18Sub hl1 hk1 hpr.many hpr.keys).mono ?_
    rintro v' w2 ⟨hso, he2⟩
    exact ⟨he1.transN he2, .inl ⟨_, v', by unfold stepK; rw [if_neg (by omega), if_neg (by omega), if_neg (by omega), if_pos (by omega)], rfl, hso.ps he2 (.inr rfl)⟩⟩
  refine xifE (fun h4' => ?_) fun h4' => ?_
  · refine hS.ld (o := 2) (v := kv) rfl ?_
    refine (c_r18Strip hl1 hk1 hpr.many hpr.keys).mono ?_
    rintro v' w2 ⟨hso, he2⟩
    exact ⟨he1.transN he2, .inl ⟨_, v', by unfold stepK; rw [if_neg (by omega), if_neg (by omega), if_neg (by omega), if_neg (by omega), if_pos (by omega)], rfl, hso.ps he2 (.inr rfl)⟩⟩
  · refine hS.ld (o := 2) (v := kv) rfl ?_
    have hfit : l = [] ∨ s.k.length + maxL (l.map fun x => x.1.length) ≤ 65535 := by
      right
      have : maxL (l.map fun p => p.1.length) ≤ 60000 := maxL_le' fun m hm => by
        obtain ⟨q, hq, rfl⟩ := List.mem_map.1 hm
        exact hlk q hq
      omega
    refine (c_r18Under (Nat.le_trans hfl he1.size) hl1 hk1 hpr.many hpr.keys (by omega) hfit).mono ?_
    rintro _ w2 ⟨v', rfl, hps, he2⟩
    exact ⟨he1.transN he2, .inl ⟨_, v', by unfold stepK; rw [if_neg (by omega), if_neg (by omega), if_neg (by omega), if_neg (by omega), if_neg (by omega)], rfl, hps⟩⟩
theorem stepK_small {s : Stp} {l l' : Kv} {m : Nat} (h : stepK s l = some l') (hkl : s.k.length ≤ 40) (hal : s.al.length ≤ 60) (hak : ∀ p ∈ s.al, p.1.length ≤ 300) (hl : l.length ≤ 60 + m) (hlk : ∀ p ∈ l, p.1.length ≤ 300 + 40 * m) : l'.length ≤ 60 + (m + 1) ∧ ∀ p ∈ l', p.1.length ≤ 300 + 40 * (m + 1) := by
  unfold stepK at h
  split at h
  · split at h
    · obtain rfl := Option.some.inj h
      exact ⟨by omega, fun p hp => by have := hak p hp; omega⟩
    · cases h
  split at h
  · obtain rfl := Option.some.inj h
    have := insK_length l s.k s.x
    refine ⟨by omega, fun p hp => ?_⟩
    rcases insK_mem hp with rfl | hp
    · show s.k.length ≤ _; omega
    · have := hlk p hp; omega
  split at h
  · obtain rfl := Option.some.inj h
    have := dropK_length s.k l
    exact ⟨by omega, fun p hp => by have := hlk p (List.mem_filter.1 hp).1; omega⟩
  split at h
  · obtain rfl := Option.some.inj h
    have := subK_length s.k l
    exact ⟨by omega, fun p hp => by have := hlk p (subK_mem hp).1; omega⟩
  split at h
  · obtain rfl := Option.some.inj h
    have := subK_length s.k l
    refine ⟨by unfold stripK; rw [List.length_map]; omega, fun p hp => ?_⟩
    obtain ⟨q, hq, rfl⟩ := List.mem_map.1 hp
    have := hlk q (subK_mem hq).1
    simp; omega
  · obtain rfl := Option.some.inj h
    refine ⟨by unfold underK; rw [List.length_map]; omega, fun p hp => ?_⟩
    obtain ⟨q, hq, rfl⟩ := List.mem_map.1 hp
    have := hlk q hq
    simp; omega
end
end law19
end Go.Proofs.YthnegkjhciakpaaGreatDoor
