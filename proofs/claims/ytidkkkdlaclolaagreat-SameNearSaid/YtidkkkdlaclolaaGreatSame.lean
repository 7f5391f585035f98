/-  same: whether two trees are the same, and how often two nodes are looked into.  -/
import Derived.Test.YtidkkkdlaclolaaGreatDet
import Derived.Test.YtidkkkdlaclolaaGreatG1
import Derived.Test.YtidkkkdlaclolaaGreatSAs
namespace Go.Proofs.YtidkkkdlaclolaaGreat
open Go Go.RowKit X
set_option linter.unusedSimpArgs false
set_option linter.unusedVariables false
set_option linter.unusedSectionVars false
/-- two rows of kids, byte for byte -/
def walk2 (f : UInt8 → Bool × Nat) : List UInt8 → List UInt8 → Bool × Nat
  | [], [] => (true, 0)
  | c :: r, d :: s => if c = d then (if (f c).1 then ((walk2 f r s).1, (f c).2 + (walk2 f r s).2) else (false, (f c).2)) else (false, 0)
  | _, _ => (false, 0)
/-- two trees of which nodes may be shared -/
def lookT : T → T → Bool × Nat
  | .nil, b => (b.ptr.isNone, 0)
  | .node a _ part val _ kids, b => match b with
    | .nil => (false, 0)
    | .node a' _ part' val' _ kids' => if a = a' then (true, 0) else if cnt (ptrs kids) = cnt (ptrs kids') ∧ part = part' ∧ val = val' then ((walk2 (fun c => lookT (kids c) (kids' c)) (dom (ptrs kids)) (dom (ptrs kids'))).1, 1 + (walk2 (fun c => lookT (kids c) (kids' c)) (dom (ptrs kids)) (dom (ptrs kids'))).2) else (false, 1)
theorem walk2_true {f : UInt8 → Bool × Nat} : ∀ {l m : List UInt8}, (walk2 f l m).1 = true ↔ l = m ∧ ∀ c ∈ l, (f c).1 = true := by
  intro l
  induction l with
  | nil =>
    intro m
    cases m <;> simp [walk2]
  | cons c r ih =>
    intro m
    cases m with
    | nil => simp [walk2]
    | cons d s =>
      rw [walk2]
      by_cases e : c = d
      · subst e
        rw [if_pos rfl]
        by_cases h : (f c).1 = true
        · rw [if_pos h]
          simp [ih, h]
        · rw [if_neg h]
          simp [h]
      · rw [if_neg e]
        simp [e]
theorem look_true [Floor] {w : World} : ∀ {a b : T}, Tree w a → Tree w b → ((lookT a b).1 = true ↔ a.er = b.er) := by
  intro a
  induction a with
  | nil =>
    intro b _ _
    cases b with
    | nil => exact ⟨fun _ => rfl, fun _ => rfl⟩
    | node => exact ⟨(fun h => by cases h), fun h => by cases h⟩
  | node a ow part val ks kids ih =>
    intro b ha hb
    cases b with
    | nil => exact ⟨(fun h => by cases h), fun h => by cases h⟩
    | node a' ow' part' val' ks' kids' =>
      rw [lookT]
      by_cases e : a = a'
      · subst e
        rw [if_pos rfl]
        exact ⟨fun _ => Tree.inj ha hb rfl, fun _ => rfl⟩
      · rw [if_neg e]
        have hopt : ∀ (k : UInt8 → T) c, (ptrs k c).isSome = ((k c).er.opt).isSome := fun k c => (T.er_opt (k c)).symm
        by_cases h : cnt (ptrs kids) = cnt (ptrs kids') ∧ part = part' ∧ val = val'
        · rw [if_pos h]
          obtain ⟨-, rfl, rfl⟩ := h
          rw [walk2_true]
          constructor
          · rintro ⟨hd, hall⟩
            have : (fun c => (kids c).er) = fun c => (kids' c).er := funext fun c => by
              by_cases hc : c ∈ dom (ptrs kids)
              · exact (ih c (ha.2 c) (hb.2 c)).1 (hall c hc)
              · have h1 : kids c = .nil := by
                  cases hk : kids c with
                  | nil => rfl
                  | node => exact absurd (dom_mem.2 (by show ((kids c).ptr).isSome = true; rw [hk]; rfl)) hc
                have h2 : kids' c = .nil := by
                  cases hk : kids' c with
                  | nil => rfl
                  | node => rw [hd] at hc; exact absurd (dom_mem.2 (by show ((kids' c).ptr).isSome = true; rw [hk]; rfl)) hc
                rw [h1, h2]
            show E.node part val _ = E.node part val _
            rw [this]
          · intro h
            have h : (fun c => (kids c).er) = fun c => (kids' c).er := by
              have h : E.node part val (fun c => (kids c).er) = E.node part val fun c => (kids' c).er := h
              injection h
            refine ⟨X.cnt_congr fun c => ?_, fun c _ => (ih c (ha.2 c) (hb.2 c)).2 (congrFun h c)⟩
            rw [hopt, hopt, congrFun h c]
        · rw [if_neg h]
          refine ⟨(fun h => by cases h), fun h' => absurd ?_ h⟩
          have h' : E.node part val (fun c => (kids c).er) = E.node part' val' fun c => (kids' c).er := h'
          injection h' with h1 h2 h3
          refine ⟨?_, h1, h2⟩
          exact X.cnt_congr' fun c => by rw [hopt, hopt, congrFun h3 c]
theorem walk2_le {f : UInt8 → Bool × Nat} {g : UInt8 → Nat} (h : ∀ c, (f c).2 ≤ g c) : ∀ {l m : List UInt8}, (walk2 f l m).2 ≤ (l.map g).sum := by
  intro l
  induction l with
  | nil =>
    intro m
    cases m <;> simp [walk2]
  | cons c r ih =>
    intro m
    cases m with
    | nil => simp [walk2]
    | cons d s =>
      rw [walk2]
      have h1 := h c
      have h2 := ih (m := s)
      rw [List.map_cons, List.sum_cons]
      split
      · split
        · show (f c).2 + _ ≤ _
          omega
        · show (f c).2 ≤ _
          omega
      · show 0 ≤ _
        omega
theorem sum_filter_le {p : UInt8 → Bool} {g : UInt8 → Nat} : ∀ {l : List UInt8}, ((l.filter p).map g).sum ≤ (l.map g).sum := by
  intro l
  induction l with
  | nil => simp
  | cons c r ih =>
    rw [List.filter_cons]
    split
    · simp only [List.map_cons, List.sum_cons]; omega
    · simp only [List.map_cons, List.sum_cons]; omega
theorem look_size : ∀ {a b : T}, (lookT a b).2 ≤ a.er.size := by
  intro a
  induction a with
  | nil => intro b; exact Nat.le_refl 0
  | node a ow part val ks kids ih =>
    intro b
    cases b with
    | nil => exact Nat.zero_le _
    | node a' ow' part' val' ks' kids' =>
      rw [lookT]
      split
      · exact Nat.zero_le _
      split
      · have h1 := walk2_le (f := fun c => lookT (kids c) (kids' c)) (g := fun c => (kids c).er.size) (fun c => ih c) (l := dom (ptrs kids)) (m := dom (ptrs kids'))
        have h2 : ((dom (ptrs kids)).map fun c => (kids c).er.size).sum ≤ (byt.map fun c => (kids c).er.size).sum := sum_filter_le
        show 1 + _ ≤ (byt.map fun c => (kids c).er.size).sum + 1
        omega
      · show 1 ≤ _ + 1
        omega
variable [Floor]
section
variable {w : World}
theorem oth_looker : Oth T_same_looker := by unfold Oth; decide
theorem c_alike {a ow : Nat} {part : Key} {val : Option Nat} {ks : List Nat} {kids : UInt8 → T} {a' ow' : Nat} {part' : Key} {val' : Option Nat} {ks' : List Nat} {kids' : UInt8 → T} (h1 : Tree w (.node a ow part val ks kids)) (h2 : Tree w (.node a' ow' part' val' ks' kids')) (l1 : (T.node a ow part val ks kids).Leafy) (l2 : (T.node a' ow' part' val' ks' kids').Leafy) :
    Ret P n_same_alike [(T.node a ow part val ks kids).v, (T.node a' ow' part' val' ks' kids').v] w fun r w' => r = .bool (decide (cnt (ptrs kids) = cnt (ptrs kids') ∧ part = part' ∧ val = val')) ∧ Ext No w w' := by
  refine W_same_alike ?_
  refine (c_Val h1).mono ?_
  rintro _ w1 ⟨rfl, rfl⟩
  refine (c_Val h2).mono ?_
  rintro _ w2 ⟨rfl, rfl⟩
  have no : ∀ {q : Prop} [Decidable q] {w1 : World}, ¬ q → Ext No w2 w1 → ∀ g : Nat → Value, ∃ r, [Value.bool false] = [Value.bool r] ∧ r = decide q ∧ Ext No w2 w1 := fun hq he g => ⟨false, rfl, (decide_eq_false hq).symm, he⟩
  refine xj (fun vs w' => ∃ r, vs = [Value.bool r] ∧ r = decide (cnt (ptrs kids) = cnt (ptrs kids') ∧ part = part' ∧ val = val') ∧ Ext No w2 w') ?_ ?_
  · refine (c_Kind h1).mono ?_
    rintro _ w3 ⟨rfl, rfl⟩
    refine (c_Kind h2).mono ?_
    rintro _ w4 ⟨rfl, rfl⟩
    refine xifE (fun hk => ?_) fun hk => ⟨false, rfl, ?_, Ext.refl _ _⟩
    · refine (c_Len h1).mono ?_
      rintro _ w5 ⟨rfl, rfl⟩
      refine (c_Len h2).mono ?_
      rintro _ w6 ⟨rfl, rfl⟩
      refine xifE (fun hc => ?_) fun hc => ⟨false, rfl, ?_, Ext.refl _ _⟩
      · have hcc : cnt (ptrs kids) = cnt (ptrs kids') := Int.ofNat.inj hc
        refine (c_Part h1).mono ?_
        rintro pv w7 ⟨hp, he7⟩
        refine (c_Part (h2.extN he7)).mono ?_
        rintro pv' w8 ⟨hp', he8⟩
        have he := he7.transN he8
        refine (c_Same (hp.extN he8) hp').mono ?_
        rintro _ w9 ⟨rfl, rfl⟩
        by_cases e : part = part'
        · have e' : (T.node a ow part val ks kids).part = (T.node a' ow' part' val' ks' kids').part := e
          rw [decide_eq_true e']
          refine xifT rfl ?_
          have fin : ∀ r, r = decide (cnt (ptrs kids) = cnt (ptrs kids') ∧ part = part' ∧ val = val') → ∃ r', [Value.bool r] = [Value.bool r'] ∧ r' = decide (cnt (ptrs kids) = cnt (ptrs kids') ∧ part = part' ∧ val = val') ∧ Ext No _ _ := fun r h => ⟨r, rfl, h, he⟩
          cases val with
          | none =>
            cases val' with
            | none => exact fin true (decide_eq_true ⟨hcc, e, rfl⟩).symm
            | some y => exact fin false (decide_eq_false fun h => by cases h.2.2).symm
          | some x =>
            cases val' with
            | none => exact fin false (decide_eq_false fun h => by cases h.2.2).symm
            | some y =>
              refine fin ((x : Int) == (y : Int)) ?_
              by_cases hxy : x = y
              · subst hxy
                rw [decide_eq_true ⟨hcc, e, rfl⟩]; simp
              · rw [decide_eq_false fun h => hxy (Option.some.inj h.2.2)]
                simp; omega
        · have e' : ¬ (T.node a ow part val ks kids).part = (T.node a' ow' part' val' ks' kids').part := e
          rw [decide_eq_false e']
          exact xifF rfl ⟨false, rfl, (decide_eq_false fun h => e h.2.1).symm, he⟩
      · exact (decide_eq_false fun h => hc (by show ((cnt (ptrs kids) : Nat) : Int) = (cnt (ptrs kids') : Nat); rw [h.1])).symm
    · refine (decide_eq_false fun h => hk ?_).symm
      show ((kindV ks (ptrs kids) : Nat) : Int) = (kindV ks' (ptrs kids') : Nat)
      unfold kindV
      have e : (ks = []) ↔ (ks' = []) := l1.1.trans ((by show cnt (ptrs kids) = 0 ↔ cnt (ptrs kids') = 0; rw [h.1] : cnt (ptrs kids) = 0 ↔ cnt (ptrs kids') = 0).trans l2.1.symm)
      by_cases e0 : ks = []
      · rw [if_pos e0, if_pos (e.1 e0)]
      · rw [if_neg e0, if_neg (fun h => e0 (e.2 h)), h.1]
  · rintro vs g w3 ⟨r, rfl, rfl, he⟩
    exact ⟨rfl, he⟩
theorem xpeq_np {a : Addr} {K : Value → Prop} (k : K (.bool false)) : xPEq P w (.pointer none) (.pointer (some a)) K := k
theorem xpeq_pn {a : Addr} {K : Value → Prop} (k : K (.bool false)) : xPEq P w (.pointer (some a)) (.pointer none) K := k
theorem c_slook0 {x : Value} : Ret P n_same_looker_same [x, .pointer none, .pointer none] w fun r w' => r = .bool true ∧ w' = w := by
  refine W_same_looker_same ?_
  refine xpeq_self T.nil ?_
  exact xifT rfl ⟨rfl, rfl⟩
theorem c_slook : ∀ (a b : T) {w : World} {xb n : Nat}, Tree w a → Tree w b → a.Leafy → b.Leafy → Blk w xb [.int .i64 n] T_same_looker → Floor.n ≤ xb → n + (lookT a b).2 < 4611686018427387904 →
    Ret P n_same_looker_same [rp xb, a.v, b.v] w fun r w' => r = .bool (lookT a b).1 ∧ Blk w' xb [.int .i64 (n + (lookT a b).2 : Nat)] T_same_looker ∧ Ext (· = xb) w w' := by
  intro a
  induction a with
  | nil =>
    intro b w xb n ha hb la lb hx hfl hbig
    cases b with
    | nil =>
      refine c_slook0.mono ?_
      rintro _ w1 ⟨rfl, rfl⟩
      exact ⟨rfl, hx, Ext.refl _ _⟩
    | node a' ow' part' val' ks' kids' =>
      refine W_same_looker_same ?_
      refine xpeq_np (a := ⟨a', 0, none⟩) ?_
      refine xifF rfl ?_
      refine xj (fun vs w' => vs = [.bool true] ∧ w = w') ?_ ?_
      · refine xpeq_self T.nil ?_
        exact xifT rfl ⟨rfl, rfl⟩
      rintro vs g w1 ⟨rfl, rfl⟩
      exact xifT rfl ⟨rfl, hx, Ext.refl _ _⟩
  | node a ow part val ks kids ih =>
    intro b w xb n ha hb la lb hx hfl hbig
    cases b with
    | nil =>
      refine W_same_looker_same ?_
      refine xpeq_pn (a := ⟨a, 0, none⟩) ?_
      refine xifF rfl ?_
      refine xj (fun vs w' => vs = [.bool true] ∧ w = w') ?_ ?_
      · show xPtrs P w (.pointer (some ⟨a, 0, none⟩)) (.pointer none) _
        refine xifF rfl ?_
        refine xpeq_self T.nil ?_
        exact ⟨rfl, rfl⟩
      rintro vs g w1 ⟨rfl, rfl⟩
      exact xifT rfl ⟨rfl, hx, Ext.refl _ _⟩
    | node a' ow' part' val' ks' kids' =>
      refine W_same_looker_same ?_
      show xPtrs P w (.pointer (some ⟨a, 0, none⟩)) (.pointer (some ⟨a', 0, none⟩)) _
      obtain ⟨pv1, hb1, -⟩ := ha.1.blk
      obtain ⟨pv2, hb2, -⟩ := hb.1.blk
      show XSame P w ⟨a, 0, none⟩ ⟨a', 0, none⟩ _
      by_cases e : a = a'
      · subst e
        rw [lookT, if_pos rfl]
        refine xsame (run_sameAddr_same _ _) ?_
        exact xifT rfl ⟨rfl, hx, Ext.refl _ _⟩
      · refine xsame (run_sameAddr_other _ (by simp [e]) hb1.h hb2.h) ?_
        refine xifF rfl ?_
        have hlk : lookT (.node a ow part val ks kids) (.node a' ow' part' val' ks' kids') = if cnt (ptrs kids) = cnt (ptrs kids') ∧ part = part' ∧ val = val' then ((walk2 (fun c => lookT (kids c) (kids' c)) (dom (ptrs kids)) (dom (ptrs kids'))).1, 1 + (walk2 (fun c => lookT (kids c) (kids' c)) (dom (ptrs kids)) (dom (ptrs kids'))).2) else (false, 1) := by
          rw [lookT, if_neg e]
        rw [hlk] at hbig ⊢
        have hn : n < 4611686018427387904 := by omega
        refine xj (fun vs w' => vs = [.bool false] ∧ w = w') ?_ ?_
        · show xPtrs P w (.pointer (some ⟨a, 0, none⟩)) (.pointer none) _
          refine xifF rfl ?_
          refine xpeq_pn (a := ⟨a', 0, none⟩) ?_
          exact ⟨rfl, rfl⟩
        rintro vs g w1 ⟨rfl, rfl⟩
        refine xifF rfl ?_
        refine hx.ld (v := .int .i64 n) rfl ?_
        refine xi (r := ((n + 1 : Nat) : Int)) (by rw [wrapI (by omega)]; omega) ?_
        refine hx.st (o := 0) (by simp) rfl fun w1 hx1 hz1 he1 => ?_
        have hx1 : Blk w1 xb [.int .i64 (n + 1 : Nat)] T_same_looker := hx1
        have ha1 := ha.ext1 he1 hx oth_looker hfl
        have hb1 := hb.ext1 he1 hx oth_looker hfl
        refine (c_alike ha1 hb1 la lb).mono ?_
        rintro _ w2 ⟨rfl, he2⟩
        by_cases hal : cnt (ptrs kids) = cnt (ptrs kids') ∧ part = part' ∧ val = val'
        · rw [if_pos hal] at hbig ⊢
          rw [decide_eq_true hal]
          refine xifF rfl ?_
          have hE2 : Ext (· = xb) w w2 := he1.transN he2
          have hx2 := hx1.ext he2 fun h => h
          generalize hf : (fun c => lookT (kids c) (kids' c)) = f at hbig ⊢
          have hfc : ∀ c, lookT (kids c) (kids' c) = f c := fun c => congrFun hf c
          refine xloop (fun nn vs w' => ∃ (i m : Nat) (d r1 r2 : List UInt8) (x1 x2 x3 x4 : Value), vs = [.int .i64 i, x1, x2, x3, x4, .bool true] ∧ nn = r1.length ∧ i ≤ 256 ∧ r1.length = r2.length ∧ dom (ptrs kids) = d ++ r1 ∧ dom (ptrs kids') = d ++ r2 ∧
              nextB (ptrs kids) i = r1.head? ∧ nextB (ptrs kids') i = r2.head? ∧ walk2 f (dom (ptrs kids)) (dom (ptrs kids')) = ((walk2 f r1 r2).1, m + (walk2 f r1 r2).2) ∧ Blk w' xb [.int .i64 (n + 1 + m : Nat)] T_same_looker ∧ Ext (· = xb) w w') (dom (ptrs kids)).length
            ⟨0, 0, [], _, _, _, _, _, _, rfl, rfl, by omega, hal.1, rfl, rfl, nextB_zero _, nextB_zero _, by rw [Nat.zero_add], hx2, hE2⟩ ?_
          rintro nn vs g w3 ⟨i, m, d, r1, r2, x1, x2, x3, x4, rfl, rfl, hi, hll, hd1, hd2, hn1, hn2, hwk, hx3, hE3⟩
          unfold S_same_looker_same_l1
          have ha3 := ha.ext1 hE3 hx oth_looker hfl
          have hb3 := hb.ext1 hE3 hx oth_looker hfl
          refine (c_Next ha3 hi).mono ?_
          rintro _ w4 ⟨rfl, he4⟩
          rw [show next2 (ptrs (T.node a ow part val ks kids).kid) i = .tuple #[nxB r1, nxP (ptrs kids) r1] from next2_of hn1]
          refine (c_Next (hb3.extN he4) hi).mono ?_
          rintro _ w5 ⟨rfl, he5⟩
          have e2 : next2 (ptrs (T.node a' ow' part' val' ks' kids').kid) i = .tuple #[nxB r2, nxP (ptrs kids') r2] := next2_of hn2
          rw [e2]
          have he35 := he4.transN he5
          have hE5 : Ext (· = xb) w w5 := hE3.transN he35
          have hx5 := hx3.ext he35 fun h => h
          rw [hwk] at hbig ⊢
          cases r1 with
          | nil =>
            cases r2 with
            | cons => simp at hll
            | nil =>
              refine xj (fun vs w' => vs = [.bool true] ∧ w5 = w') ?_ ?_
              · refine xifT rfl ?_
                refine c_slook0.mono ?_
                rintro _ w6 ⟨rfl, rfl⟩
                exact ⟨rfl, rfl⟩
              rintro vs g w6 ⟨rfl, rfl⟩
              refine xj (fun vs w' => vs = [.bool true] ∧ w5 = w') ?_ ?_
              · refine xifF rfl ?_
                refine xpeq_self T.nil ?_
                exact ⟨rfl, rfl⟩
              rintro vs g w6 ⟨rfl, rfl⟩
              refine xifT rfl ?_
              exact ⟨rfl, by have e : n + (1 + (m + (walk2 f [] []).2)) = n + 1 + m := by (show n + (1 + (m + 0)) = _; omega)
                             show Blk w5 xb [.int .i64 ((n + (1 + (m + (walk2 f [] []).2)) : Nat) : Int)] _
                             rw [e]; exact hx5, hE5⟩
          | cons c r1 =>
            cases r2 with
            | nil => simp at hll
            | cons d' r2 =>
              have hcd : c ∈ dom (ptrs kids) := by rw [hd1]; simp
              obtain ⟨ka, hka⟩ := Option.isSome_iff_exists.1 (dom_mem.1 hcd)
              have hka : (kids c).ptr = some ka := hka
              by_cases ec : c = d'
              · subst ec
                rw [walk2, if_pos rfl] at hbig ⊢
                have hfle : (f c).2 ≤ (if (f c).1 then ((walk2 f r1 r2).1, (f c).2 + (walk2 f r1 r2).2) else (false, (f c).2)).2 := by
                  split
                  · show _ ≤ _ + _; omega
                  · exact Nat.le_refl _
                have hbig' : n + (1 + (m + (if (f c).1 then ((walk2 f r1 r2).1, (f c).2 + (walk2 f r1 r2).2) else (false, (f c).2)).2)) < 4611686018427387904 := hbig
                have hih := ih c (kids' c) (w := w5) (xb := xb) (n := n + 1 + m) ((ha3.extN he35).2 c) ((hb3.extN he35).2 c) (la.2 c) (lb.2 c) hx5 hfl (by rw [hfc]; omega)
                rw [hfc] at hih
                refine xj (fun vs w' => vs = [.bool (f c).1] ∧ Blk w' xb [.int .i64 (n + 1 + m + (f c).2 : Nat)] T_same_looker ∧ Ext (· = xb) w w') ?_ ?_
                · refine xifT (by simp [nxB]) ?_
                  refine Ret.mono (show Ret P n_same_looker_same [rp xb, (kids c).v, (kids' c).v] w5 _ from hih) ?_
                  rintro _ w6 ⟨rfl, hx6, he6⟩
                  exact ⟨rfl, hx6, hE5.transS he6⟩
                rintro vs g w6 ⟨rfl, hx6, hE6⟩
                cases hfb : (f c).1 with
                | false =>
                  refine xj (fun vs w' => vs = [.bool true] ∧ w6 = w') ?_ ?_
                  · exact xifT rfl ⟨rfl, rfl⟩
                  rintro vs g w7 ⟨rfl, rfl⟩
                  refine xifT rfl ?_
                  rw [if_neg (by simp)]
                  exact ⟨rfl, by have e : n + (1 + (m + (f c).2)) = n + 1 + m + (f c).2 := by omega
                                 show Blk w6 xb [.int .i64 ((n + (1 + (m + (f c).2)) : Nat) : Int)] _
                                 rw [e]; exact hx6, hE6⟩
                | true =>
                  rw [hfb, if_pos rfl] at hbig'
                  rw [if_pos rfl]
                  refine xj (fun vs w' => vs = [.bool false] ∧ w6 = w') ?_ ?_
                  · refine xifF rfl ?_
                    show xPEq P w6 (.pointer (kids c).ptr) (.pointer none) _
                    rw [hka]
                    exact ⟨rfl, rfl⟩
                  rintro vs g w7 ⟨rfl, rfl⟩
                  refine xifF rfl ?_
                  have hcb := u8_lt c
                  refine xi (r := (c.toNat : Int)) (wrapI (by omega)) ?_
                  refine xi (r := ((c.toNat + 1 : Nat) : Int)) (by rw [wrapI (by omega)]; omega) ?_
                  refine xnext r1.length (by simp) ⟨c.toNat + 1, m + (f c).2, d ++ [c], r1, r2, _, _, _, _, rfl, rfl, by omega, by simpa using hll, by rw [hd1]; simp, by rw [hd2]; simp, nextB_succ hd1, nextB_succ hd2, ?_, ?_, hE6⟩
                  · show (_, _) = (_, _)
                    congr 1
                    show m + ((f c).2 + _) = m + (f c).2 + _
                    omega
                  · have e : n + 1 + (m + (f c).2) = n + 1 + m + (f c).2 := by omega
                    rw [e]; exact hx6
              · rw [walk2, if_neg ec]
                refine xj (fun vs w' => vs = [.bool false] ∧ w5 = w') ?_ ?_
                · refine xifF ?_ ⟨rfl, rfl⟩
                  have : (c.toNat : Int) ≠ d'.toNat := fun h => ec (UInt8.toNat_inj.1 (by omega))
                  simp [nxB]; omega
                rintro vs g w6 ⟨rfl, rfl⟩
                refine xj (fun vs w' => vs = [.bool true] ∧ w5 = w') ?_ ?_
                · exact xifT rfl ⟨rfl, rfl⟩
                rintro vs g w7 ⟨rfl, rfl⟩
                refine xifT rfl ?_
                exact ⟨rfl, by have e : n + (1 + (m + 0)) = n + 1 + m := by omega
                               show Blk w5 xb [.int .i64 ((n + (1 + (m + 0)) : Nat) : Int)] _
                               rw [e]; exact hx5, hE5⟩
        · rw [if_neg hal]
          rw [decide_eq_false hal]
          refine xifT rfl ?_
          exact ⟨rfl, hx1.ext he2 fun h => h, he1.transN he2⟩
variable {a b : T}
theorem c_SameX (hfl : Floor.n ≤ w.heap.size) (ha : Tree w a) (hb : Tree w b) (la : a.Leafy) (lb : b.Leafy) (hs : a.er.size < 1000000000) : Ret P n_same_Same [a.v, b.v] w fun r w' => r = .bool (lookT a b).1 ∧ Ext No w w' := by
  refine W_same_Same ?_
  show XNew w [.int .i64 0] T_same_looker _
  refine xnew fun xb w1 hxb hblk hz he => ?_
  have hle := look_size (a := a) (b := b)
  refine (c_slook a b (n := 0) (ha.extN he) (hb.extN he) la lb hblk (by omega) (by omega)).mono ?_
  rintro _ w2 ⟨rfl, -, he2⟩
  exact ⟨rfl, he.trans1 he2 (by omega)⟩
theorem c_Looks (hfl : Floor.n ≤ w.heap.size) (ha : Tree w a) (hb : Tree w b) (la : a.Leafy) (lb : b.Leafy) (hs : a.er.size < 1000000000) : Ret P n_same_Looks [a.v, b.v] w fun r w' => r = .int .i64 (lookT a b).2 ∧ Ext No w w' := by
  refine W_same_Looks ?_
  show XNew w [.int .i64 0] T_same_looker _
  refine xnew fun xb w1 hxb hblk hz he => ?_
  have hle := look_size (a := a) (b := b)
  refine (c_slook a b (n := 0) (ha.extN he) (hb.extN he) la lb hblk (by omega) (by omega)).mono ?_
  rintro _ w2 ⟨rfl, hb2, he2⟩
  refine hb2.ld rfl ?_
  exact ⟨by rw [Nat.zero_add], he.trans1 he2 (by omega)⟩
end
end Go.Proofs.YtidkkkdlaclolaaGreat
