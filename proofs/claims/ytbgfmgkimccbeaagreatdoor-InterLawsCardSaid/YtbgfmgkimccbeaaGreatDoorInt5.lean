/-  inter: inter.Of of trees of pairs; what the document says.  -/
import Derived.Test.YtbgfmgkimccbeaaGreatDoorInt4
import Derived.Test.YtbgfmgkimccbeaaGreatDoorRefV
namespace Go.Proofs.YtbgfmgkimccbeaaGreatDoor
open Go Go.RowKit X
set_option linter.unusedSimpArgs false
set_option linter.unusedVariables false
set_option linter.unusedSectionVars false
/-- the pairs of which the keys are in both -/
def interF (f : Nat → Nat → Nat) (l m : Kv) : Kv := l.filterMap fun x => (look m x.1).map fun y => (x.1, f x.2 y)
abbrev interK (p : Nat) (l m : Kv) : Kv := interF (pickN p) l m
theorem interF_look {p : Nat} (l m : Kv) (k : Key) : look (interK p l m) k = interO p (look l k) (look m k) := by
  induction l with
  | nil => rfl
  | cons x r ih =>
    unfold interK interF at ih ⊢
    by_cases e : x.1 = k
    · subst e
      have h1 : look (x :: r) x.1 = some x.2 := by simp [look]
      rw [h1]
      cases hm : look m x.1 with
      | none =>
        rw [List.filterMap_cons_none (by rw [hm]; rfl), ih, hm]
        rw [interO_none]; rfl
      | some y =>
        rw [List.filterMap_cons_some (by rw [hm]; rfl)]
        simp [look, interO]
    · have h1 : look (x :: r) k = look r k := by simp [look, e]
      rw [h1, ← ih]
      cases hm : look m x.1 with
      | none => rw [List.filterMap_cons_none (by rw [hm]; rfl)]
      | some y =>
        rw [List.filterMap_cons_some (by rw [hm]; rfl)]
        simp [look, e]
theorem interF_mem {f : Nat → Nat → Nat} {l m : Kv} {q : Key × Nat} (h : q ∈ interF f l m) : ∃ x ∈ l, x.1 = q.1 := by
  obtain ⟨x, hx, hq⟩ := List.mem_filterMap.1 h
  cases hm : look m x.1 with
  | none => rw [hm] at hq; cases hq
  | some y => rw [hm] at hq; exact ⟨x, hx, by rw [← Option.some.inj hq]⟩
theorem interF_length (f : Nat → Nat → Nat) (l m : Kv) : (interF f l m).length ≤ l.length := List.length_filterMap_le _ _
theorem interF_rises {f : Nat → Nat → Nat} {l m : Kv} (h : Rises l) : Rises (interF f l m) := by
  refine List.Pairwise.filterMap _ (R := fun a b : Key × Nat => klt a.1 b.1) (fun a b hab x hx y hy => ?_) h
  have key : ∀ {a x : Key × Nat}, (Option.map (fun y => (a.1, f a.2 y)) (look m a.1)) = some x → x.1 = a.1 := fun {a x} hx => by
    cases hm : look m a.1 with
    | none => rw [hm] at hx; cases hx
    | some z => rw [hm] at hx; rw [← Option.some.inj hx]
  rw [key hx, key hy]
  exact hab
theorem interF_snoc (f : Nat → Nat → Nat) (l m : Kv) (x : Key × Nat) : interF f (l ++ [x]) m = interF f l m ++ (match look m x.1 with | some y => [(x.1, f x.2 y)] | none => []) := by
  unfold interF
  rw [List.filterMap_append]
  congr 1
  cases hm : look m x.1 with
  | none => rw [List.filterMap_cons_none (by rw [hm]; rfl)]; rfl
  | some y => rw [List.filterMap_cons_some (by rw [hm]; rfl)]; rfl
theorem interF_empty {f g : Nat → Nat → Nat} {l m : Kv} (h : interF f l m = []) : interF g l m = [] := by
  rw [List.eq_nil_iff_forall_not_mem] at h ⊢
  intro q hq
  obtain ⟨x, hx, hq⟩ := List.mem_filterMap.1 hq
  cases hm : look m x.1 with
  | none => rw [hm] at hq; cases hq
  | some y => exact h (x.1, f x.2 y) (List.mem_filterMap.2 ⟨x, hx, by rw [hm]; rfl⟩)
theorem interF_pr [Floor] {f : Nat → Nat → Nat} {l m : Kv} (h : Pr l) : Pr (interF f l m) := ⟨interF_rises h.rises, fun q hq => by
  obtain ⟨x, hx, e⟩ := interF_mem hq
  rw [← e]; exact h.keys x hx, Nat.le_trans (interF_length f l m) h.many⟩
/-- what a policy picks; a bad one: nothing -/
def pickZ (z : Int) : Nat → Nat → Nat := if 1 ≤ z ∧ z ≤ 5 then pickN z.toNat else fun _ _ => 0
variable [Floor]
section
variable {w : World} {a b : T} {l m : Kv} {o n p : Nat} {mt : Option Mtr} {z : Int} {va vb : Value}
theorem c_zPick {x y : Nat} (hx : x < 18446744073709551616) (hy : y < 18446744073709551616) : Ret P n_ref24_Pick [.int .i64 z, .int .u64 x, .int .u64 y] w fun r w' => w' = w ∧ pickZ z x y < 18446744073709551616 ∧ ∃ e : Int, r = .tuple #[u64 (pickZ z x y), .int .i64 e] ∧ (e = 0 ↔ 1 ≤ z ∧ z ≤ 5) := by
  refine (c_r24Pick hx hy).mono ?_
  rintro r w' ⟨rfl, ⟨p, h1, h5, rfl, rfl⟩ | ⟨hn, rfl⟩⟩
  · have e : pickZ ((p : Nat) : Int) x y = pickN p x y := by unfold pickZ; rw [if_pos (by omega)]; rfl
    rw [e]
    exact ⟨rfl, pick_lt hx hy, 0, rfl, by omega, fun _ => rfl⟩
  · have e : pickZ z x y = 0 := by unfold pickZ; rw [if_neg hn]
    rw [e]
    exact ⟨rfl, by omega, 1, rfl, (fun h => by omega), fun h => absurd h hn⟩
theorem c_r25Inter (ha : Ps w va l) (hb : Ps w vb m) (hl : l.length ≤ 100000) (hm : m.length ≤ 100000) (hk : ∀ x ∈ m, x.1.length ≤ 65535) :
    Ret P n_ref25_Inter [.int .i64 z, va, vb] w fun r w' => Ps w' r (interF (pickZ z) l m) ∧ Ext No w w' := by
  refine W_ref25_Inter ?_
  refine xloop (fun n vs w' => ∃ (i : Nat) (x1 x2 x3 x4 out : Value), vs = [.int .i64 i, x1, x2, x3, x4, out] ∧ n = l.length - i ∧ i ≤ l.length ∧ SO w w' T_ref01_Pair out (interF (pickZ z) (l.take i) m) ∧ Ext No w w') l.length
    ⟨0, _, _, _, _, _, rfl, rfl, by omega, SO.nil _ _ _, Ext.refl _ _⟩ ?_
  rintro n vs g w1 ⟨i, x1, x2, x3, x4, out, rfl, rfl, hi, hso, he⟩
  unfold S_ref25_Inter_l1
  refine ha.len ?_
  refine xifD (fun hlt => ?_) fun hge => ?_
  · have hil : i < l.length := by omega
    refine xj (fun vs w' => ∃ x1 x2 x3 x4 out' : Value, vs = [x1, x2, x3, x4, out'] ∧ SO w w' T_ref01_Pair out' (interF (pickZ z) (l.take (i + 1)) m) ∧ Ext No w w') ?_ ?_
    · refine (ha.extN he).key i rfl hil fun kv hkv => ?_
      refine (c_r14Get (hb.extN he) hkv hm hk).mono ?_
      rintro _ w2 ⟨rfl, he2⟩
      have hE2 := he.transN he2
      have hsn := interF_snoc (pickZ z) (l.take i) m l[i]
      rw [List.take_append_getElem hil] at hsn
      cases hlk : look m l[i].1 with
      | none =>
        refine xifF rfl ?_
        rw [hlk] at hsn
        rw [hsn]
        exact ⟨_, _, _, _, _, rfl, by simpa using hso.extN he2, hE2⟩
      | some y =>
        rw [hlk] at hsn
        have hy : y < 18446744073709551616 := hb.v64 _ (look_mem hlk)
        refine xifT rfl ?_
        refine (ha.extN hE2).val i rfl hil ?_
        refine (c_zPick (z := z) (x := l[i].2) (y := y) (ha.get hil) hy).mono ?_
        rintro _ w3 ⟨rfl, hp64, e, rfl, -⟩
        refine ha.key0 hE2 i rfl hil fun kv hkv => ?_
        obtain ⟨ad, cp, rfl⟩ := hkv.slice
        show XNew w3 [.slice ad l[i].1.length cp, u64 (pickZ z l[i].2 y)] T_ref01_Pair _
        refine xnew fun c w4 hc hbl hz4 he4 => ?_
        have hsl : Sl w4 (tyQ T_ref01_Pair) (.slice (some ⟨c, 0, none⟩) 1 1) 2 1 [.slice ad l[i].1.length cp, u64 (pickZ z l[i].2 y)] := hbl.sln rfl
        have hle := interF_length (pickZ z) (l.take i) m
        have htl : (l.take i).length = i := by rw [List.length_take]; omega
        refine SO.app (m := [(l[i].1, pickZ z l[i].2 y)]) ei_ref (hso.extN (he2.transN he4)) (hE2.transN he4) hsl (PC.sing hkv hp64) (by simp at hle ⊢; omega) fun out' w5 hso5 he5 _ _ => ?_
        rw [hsn]
        exact ⟨_, _, _, _, _, rfl, hso5, he5⟩
    · rintro vs g w2 ⟨y1, y2, y3, y4, out', rfl, hso2, he2⟩
      refine xi (r := ((i + 1 : Nat) : Int)) (by rw [wrapI (by omega)]; omega) ?_
      exact xnext (l.length - (i + 1)) (by omega) ⟨i + 1, _, _, _, _, _, rfl, rfl, by omega, hso2, he2⟩
  · have : i = l.length := by omega
    subst this
    rw [List.take_length] at hso
    exact ⟨hso.ps he (.inr rfl), he⟩
/-- what both have -/
structure IfR (w w' : World) (p : Nat) (a : T) (l m : Kv) (t' : T) (mt : Option Mtr) (n n' : Nat) : Prop where
  ct : Ct w' t' (interK p l m)
  cnt : Mt w' mt n'
  ext : Ext (MX mt) w w'
  all : ∀ c, t'.All c → a.All c ∨ w.heap.size ≤ c
  idle : interK p l m = l → t' = a ∧ n' = n
theorem c_If {p : Nat} (hp : 1 ≤ p ∧ p ≤ 5) (hz : z = p) (ha : Ct w a l) (hl : Pr l) (hb : Ct w b m) (hm : Pr m) (hmt : Mt w mt n) (ho : o ≠ 0) :
    Ret P n_inter_Of [.int .i64 z, a.v, b.v, .int .u64 o, mv mt] w fun r w' => ∃ t' n', r = .tuple #[t'.v, .int .i64 0] ∧ IfR w w' p a l m t' mt n n' := by
  refine W_inter_Of ?_
  refine (c_UPick (z := z) (a := 0) (b := 0) (by omega) (by omega)).mono ?_
  rintro r w1 ⟨he1, ⟨p', h1, h5, hp', rfl⟩ | ⟨hn, rfl⟩⟩
  case inr => exact absurd ⟨by omega, by omega⟩ hn
  obtain rfl : p' = p := by omega
  refine xj (fun vs w' => vs = [.bool false] ∧ w1 = w') ?_ ?_
  · refine xifF rfl ?_
    exact ⟨by simp; omega, rfl⟩
  rintro vs g w2 ⟨rfl, rfl⟩
  refine xifF rfl ?_
  subst hz
  have hla := ha.long hl
  have hlb := hb.long hm
  have ga : Go1 w1 a 0 := ⟨(ha.extN he1).tree, ha.can.fine, ha.leafy, by omega, Nat.zero_le _⟩
  have gb : Go1 w1 b 0 := ⟨(hb.extN he1).tree, hb.can.fine, hb.leafy, by omega, Nat.zero_le _⟩
  refine Ret.mono (show Ret P n_inter_sieve_of [sivV p' o mt, restV a 0, restV b 0] w1 _ from c_iOf hp ho _ (Nat.lt_succ_self _) hla ga gb (hmt.extN he1)) ?_
  rintro _ w2 ⟨t', n', rfl, hR⟩
  have hR := hR.from' he1
  have hg : ∀ k, gI p' a.er b.er 0 0 k = look (interK p' l m) k := fun k => by
    unfold gI
    rw [offE_zero, ha.can.get k, interF_look]
    show interO p' _ (b.er.get k) = _
    rw [hb.can.get k]
  exact ⟨t', n', rfl, ⟨hR.tree, hR.can.congr hg, hR.leafy⟩, hR.cnt, hR.ext, hR.all, fun e => hR.idle fun k => by rw [hg, e, ha.can.get k]⟩
theorem c_IfBad {x y : Value} (h : ¬ (1 ≤ z ∧ z ≤ 5) ∨ o = 0) : Ret P n_inter_Of [.int .i64 z, x, y, .int .u64 o, mv mt] w fun r w' => r = .tuple #[.pointer none, .int .i64 1] ∧ Ext No w w' := by
  refine W_inter_Of ?_
  refine (c_UPick (z := z) (a := 0) (b := 0) (by omega) (by omega)).mono ?_
  rintro r w1 ⟨he1, ⟨p', h1, h5, hp', rfl⟩ | ⟨hn, rfl⟩⟩
  · refine xj (fun vs w' => vs = [.bool true] ∧ w1 = w') ?_ ?_
    · refine xifF rfl ?_
      have : o = 0 := h.resolve_left fun h => h ⟨by omega, by omega⟩
      subst this
      exact ⟨rfl, rfl⟩
    rintro vs g w2 ⟨rfl, rfl⟩
    exact xifT rfl ⟨rfl, he1⟩
  · refine xj (fun vs w' => vs = [.bool true] ∧ w1 = w') ?_ ?_
    · exact xifT rfl ⟨rfl, rfl⟩
    rintro vs g w2 ⟨rfl, rfl⟩
    exact xifT rfl ⟨rfl, he1⟩
theorem Ct.isNil {t : T} (h : Ct w t l) : t = .nil ↔ l = [] := by
  constructor
  · rintro rfl
    cases l with
    | nil => rfl
    | cons x r =>
      have := h.can.get x.1
      have e : look (x :: r) x.1 = some x.2 := by simp [look]
      rw [e] at this
      cases this
  · rintro rfl
    exact h.nilT
theorem c_Apart (ha : Ct w a l) (hl : Pr l) (hb : Ct w b m) (hm : Pr m) (hmt : Mt w none n) : Ret P n_inter_Apart [a.v, b.v] w fun r w' => r = .bool (decide (interK 1 l m = [])) ∧ Ext No w w' := by
  refine W_inter_Apart ?_
  refine (c_If (z := 1) (p := 1) (o := 1) (mt := none) ⟨by omega, by omega⟩ rfl ha hl hb hm hmt (by omega)).mono ?_
  rintro _ w1 ⟨t', n', rfl, hR⟩
  have he : Ext No w w1 := hR.ext
  by_cases e : t' = .nil
  · have e2 := hR.ct.isNil.1 e
    subst e
    exact xpeq_self (w := w1) (K := fun v => v = .bool (decide (interK 1 l m = [])) ∧ Ext No w w1) T.nil ⟨by rw [decide_eq_true e2], he⟩
  · exact xpeq_node (w := w1) (K := fun v => v = .bool (decide (interK 1 l m = [])) ∧ Ext No w w1) e ⟨by rw [decide_eq_false fun h => e (hR.ct.isNil.2 h)], he⟩
end
end Go.Proofs.YtbgfmgkimccbeaaGreatDoor
