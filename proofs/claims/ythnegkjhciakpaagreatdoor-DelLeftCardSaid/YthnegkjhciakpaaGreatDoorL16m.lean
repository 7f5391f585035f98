/-  law16: DelLeft: the document's answer; whether pairs are the same.  -/
import Derived.Test.YthnegkjhciakpaaGreatDoorL16l
namespace Go.Proofs.YthnegkjhciakpaaGreatDoor
open Go Go.RowKit X
set_option linter.unusedSimpArgs false
set_option linter.unusedVariables false
set_option linter.unusedSectionVars false
variable [Floor]
/-- whether a pair lies below one of some bytes -/
def belowK (part : Key) (bs : Key) (p : Key × Nat) : Bool := decide (p.1.length ≠ part.length) && decide (byteAt part.length p.1 ∈ bs)
def leftK (part : Key) (val : Option Nat) (bs : Key) (l : Kv) : Kv := (match val with | some x => [(part, x)] | none => []) ++ l.filter (belowK part bs)
namespace law16
section
variable {w : World} {va vb v vd : Value} {l m : Kv} {bs : Key} {x : Nat} {val : Option Nat}
theorem c_equal (ha : Ps w va l) (hb : Ps w vb m) (hl : l.length ≤ 100000) (hm : m.length ≤ 100000) (hk : ∀ p ∈ l, p.1.length ≤ 65535) : Ret P n_law16_equal [va, vb] w fun r w' => r = .bool (decide (l = m)) ∧ Ext No w w' := by
  refine W_law16_equal ?_
  refine ha.len ?_
  refine hb.len ?_
  refine xifN (fun h => ⟨?_, Ext.refl _ _⟩) fun hlen => ?_
  · rw [decide_eq_false fun e => h (by rw [e])]
  have hlen : l.length = m.length := by
    have h : ((l.length : Nat) : Int) = (m.length : Nat) := hlen
    omega
  refine ha.len ?_
  refine xloop (fun n vs w' => ∃ (i : Nat) (y : Value), vs = [.int .i64 i, y, .bool false] ∧ n = l.length - i ∧ i ≤ l.length ∧ l.take i = m.take i ∧ Ext No w w') l.length ⟨0, _, rfl, rfl, by omega, rfl, Ext.refl _ _⟩ ?_
  rintro n vs g w1 ⟨i, y, rfl, rfl, hi, hall, he⟩
  unfold S_law16_equal_l1
  refine xifD (fun hlt => ?_) fun hge => ?_
  · have hil : i < l.length := by omega
    have him : i < m.length := by omega
    have hd := he.drew
    refine xj (fun vs w' => ∃ q : Bool, vs = [.bool q] ∧ (q = true ↔ l[i] ≠ m[i]) ∧ Ext No w w') ?_ ?_
    · refine (ha.extN hd).val i rfl hil ?_
      refine (hb.extN hd).val i rfl him ?_
      refine xifN (fun h => ⟨true, rfl, ⟨fun _ e => h (by rw [e]), fun _ => rfl⟩, hd⟩) fun hv => ?_
      have hv : l[i].2 = m[i].2 := by
        have h : ((l[i].2 : Nat) : Int) = (m[i].2 : Nat) := hv
        omega
      refine (ha.extN hd).key i rfl hil fun kv hkv => ?_
      refine (hb.extN hd).key i rfl him fun kv' hkv' => ?_
      refine (c_rSame hkv hkv' (by have := hk _ (List.getElem_mem hil); omega)).mono ?_
      rintro _ w2 ⟨rfl, he2⟩
      refine ⟨_, rfl, ?_, hd.transN he2⟩
      by_cases e : l[i].1 = m[i].1
      · rw [decide_eq_true e]
        exact ⟨(fun h => by cases h), fun h => absurd (Prod.ext e hv) h⟩
      · rw [decide_eq_false e]
        exact ⟨fun _ h => e (by rw [h]), fun _ => rfl⟩
    rintro vs g w2 ⟨q, rfl, hq, he2⟩
    cases q with
    | true =>
      refine xifT rfl ⟨?_, he2⟩
      rw [decide_eq_false]
      intro e
      subst e
      exact hq.1 rfl rfl
    | false =>
      have heq : l[i] = m[i] := by
        by_cases e : l[i] = m[i]
        · exact e
        · have := hq.2 e; cases this
      refine xifF rfl ?_
      refine xi (r := ((i + 1 : Nat) : Int)) (by rw [wrapI (by omega)]; omega) ?_
      exact xnext (l.length - (i + 1)) (by omega) ⟨i + 1, _, rfl, rfl, by omega, by rw [← List.take_append_getElem hil, ← List.take_append_getElem him, hall, heq], he2⟩
  · have : i = l.length := by omega
    subst this
    rw [List.take_length, hlen, List.take_length] at hall
    exact ⟨by rw [decide_eq_true hall], he⟩
theorem c_r16Left {e : E} (ha : Ps w va l) (hp : Pr l) (hd : Bs w vd bs) (hx : x < 18446744073709551616) (hv : ∀ y, val = some y → y = x) (he : Can e (look l)) {part : Key} {v0 : Option Nat} {kids : UInt8 → E} (hen : e = .node part v0 kids) (hbl : bs.length ≤ 1000) :
    Ret P n_ref16_Left [va, .bool val.isSome, .int .u64 x, vd] w fun r w' => Ps w' r (leftK part val bs l) ∧ Ext No w w' := by
  have hmany := hp.many
  have hpre : ∀ p ∈ l, part <+: p.1 := fun p hpm => by
    have h1 : e.get p.1 = some p.2 := (he.get p.1).trans (hp.rises.lk hpm)
    rw [hen] at h1
    exact E.get_pre h1
  refine W_ref16_Left ?_
  refine (c_rBuild (by omega) ha hp.rises hp.keys).mono ?_
  rintro _ w1 ⟨e', cs, rfl, hrc, hcan, he1⟩
  obtain rfl : e' = e := hcan.uniq he
  subst hen
  have hlen6 := hrc.len
  obtain ⟨vp, vb', vk, cells, rfl, hvp, hvb, hvk, hkids, hpl, hv64⟩ := hrc
  have hpart : Bs w1 vp part := hvp.weak fun b t h => h.1
  obtain ⟨pad, pcap, rfl⟩ := hpart.slice
  refine xnew fun nb w2 hnb hblk hz2 he2 => ?_
  refine xstoreVar hblk (by kernel_rfl) (by simp) hlen6.2 fun w3 hb3 hz3 he3 => ?_
  have hb3 : Blk w3 nb [.int .i64 (kindR (dom fun c => (kids c).opt).length), .slice pad part.length pcap, .bool v0.isSome, u64 (v0.getD 0), vb', vk] T_ref13_Node := by simpa using hb3
  have hE13 : Ext No w1 w3 := he2.trans1 he3 (by omega)
  have hE3 := he1.transN hE13
  have hp3 := hpart.extN hE13
  have ha3 := ha.extN hE3
  have hd3 := hd.extN hE3
  generalize hH : (match val with | some x => [(part, x)] | none => ([] : Kv)) = H
  have hLK : leftK part val bs l = H ++ l.filter (belowK part bs) := by unfold leftK; rw [← hH]
  have hHl : H.length ≤ 1 := by rw [← hH]; cases val <;> simp
  refine xj (fun vs w' => ∃ out : Value, vs = [out] ∧ SO w3 w' T_ref01_Pair out H ∧ Ext No w3 w') ?_ ?_
  · cases val with
    | none =>
      subst hH
      exact xifF rfl ⟨_, rfl, SO.nil _ _ _, Ext.refl _ _⟩
    | some y =>
      obtain rfl := hv y rfl
      subst hH
      refine xifT rfl ?_
      refine hb3.ld (o := 1) (v := .slice pad part.length pcap) rfl ?_
      show XNew w3 [.slice pad part.length pcap, u64 y] T_ref01_Pair _
      refine xnew fun c w4 hc hbl hz4 he4 => ?_
      have hsl : Sl w4 (tyQ T_ref01_Pair) (.slice (some ⟨c, 0, none⟩) 1 1) 2 1 [.slice pad part.length pcap, u64 y] := hbl.sln rfl
      refine SO.app (l := []) (m := [(part, y)]) ei_ref (SO.nil w3 w4 T_ref01_Pair) he4 hsl (PC.sing hp3 hx) (by simp) fun out' w5 hso5 he5 _ _ => ?_
      exact ⟨_, rfl, hso5, he5⟩
  rintro vs g w4 ⟨out, rfl, hso, he4⟩
  refine xloop (fun n vs w' => ∃ (i : Nat) (x1 x2 x3 out : Value), vs = [.int .i64 i, x1, x2, x3, out] ∧ n = l.length - i ∧ i ≤ l.length ∧ SO w3 w' T_ref01_Pair out (H ++ (l.take i).filter (belowK part bs)) ∧ Ext No w3 w') l.length
    ⟨0, _, _, _, out, rfl, rfl, by omega, by simpa using hso, he4⟩ ?_
  rintro n vs g w5 ⟨i, x1, x2, x3, out5, rfl, rfl, hi, hso5, he5⟩
  unfold S_ref16_Left_l2
  refine ha.len ?_
  refine xifD (fun hlt => ?_) fun hge => ?_
  · have hil : i < l.length := by omega
    have htk := List.take_append_getElem hil
    obtain ⟨s, hs⟩ := hpre _ (List.getElem_mem hil)
    have hb5 := hb3.ext he5 fun h => h
    have hkl := hp.keys _ (List.getElem_mem hil)
    have hfl : ((l.take i).filter (belowK part bs)).length ≤ 100000 := by
      have h1 := List.length_filter_le (belowK part bs) (l.take i)
      rw [List.length_take] at h1
      omega
    refine xj (fun vs w' => ∃ y1 y2 y3 out' : Value, vs = [y1, y2, y3, out'] ∧ SO w3 w' T_ref01_Pair out' (H ++ (l.take (i + 1)).filter (belowK part bs)) ∧ Ext No w3 w') ?_ ?_
    · refine ha3.key0 he5 i rfl hil fun kv hkv => ?_
      refine hkv.len ?_
      refine hb5.ld (o := 1) (v := .slice pad part.length pcap) rfl ?_
      refine hp3.len ?_
      refine xifE (fun hl => ?_) fun hl => ?_
      · have hno : belowK part bs l[i] = false := by
          unfold belowK
          have hl : l[i].1.length = part.length := by omega
          rw [hl]; simp
        rw [← htk, List.filter_append, List.filter_cons_of_neg (by rw [hno]; simp), List.filter_nil, List.append_nil]
        exact ⟨_, _, _, _, rfl, hso5, he5⟩
      · have hlt' : part.length < l[i].1.length := by
          have := congrArg List.length hs
          rw [List.length_append] at this
          omega
        have hby : byteAt part.length l[i].1 = l[i].1[part.length] := (byteAt_get hlt').symm
        refine xloop (fun n vs w' => ∃ (j : Nat), vs = [.int .i64 j, .bool (decide (byteAt part.length l[i].1 ∈ bs.take j))] ∧ n = bs.length - j ∧ j ≤ bs.length ∧ Ext No w5 w') bs.length ⟨0, by simp, rfl, by omega, Ext.refl _ _⟩ ?_
        rintro n vs g w6 ⟨j, rfl, rfl, hj, he6⟩
        unfold S_ref16_Left_l1
        have hE6 := he5.transN he6
        refine hd3.len ?_
        refine xifD (fun hlt2 => ?_) fun hge2 => ?_
        · have hjl : j < bs.length := by omega
          have hm : decide (byteAt part.length l[i].1 ∈ bs.take (j + 1)) = (decide (byteAt part.length l[i].1 ∈ bs.take j) || decide (bs[j] = byteAt part.length l[i].1)) := by
            rw [← List.take_append_getElem hjl]
            by_cases h1 : byteAt part.length l[i].1 ∈ bs.take j
            · rw [decide_eq_true h1, decide_eq_true (List.mem_append_left _ h1)]; rfl
            · rw [decide_eq_false h1, Bool.false_or]
              exact decide_eq_decide.2 ⟨fun h => (List.mem_append.1 h).elim (fun h => absurd h h1) fun h => (List.mem_singleton.1 h).symm, fun h => List.mem_append_right _ (List.mem_singleton.2 h.symm)⟩
          have hd6 := Ext.drew (Ext.refl No w6)
          refine xj (fun vs w' => vs = [.bool (decide (byteAt part.length l[i].1 ∈ bs.take (j + 1)))] ∧ w' = w6.drew) ?_ ?_
          · rw [hm]
            cases hq : decide (byteAt part.length l[i].1 ∈ bs.take j) with
            | true => exact xifT rfl ⟨rfl, rfl⟩
            | false =>
              refine xifF rfl ?_
              refine ((hd3.extN hE6).extN hd6).rd j hjl rfl ?_
              refine (hb5.ext he6 fun h => h).drew.ld (o := 1) (v := .slice pad part.length pcap) rfl ?_
              refine hp3.len ?_
              refine ((hkv.extN hE6).extN hd6).rd part.length hlt' rfl ?_
              rw [← hby]
              refine ⟨?_, rfl⟩
              by_cases e : bs[j] = byteAt part.length l[i].1
              · rw [decide_eq_true e, e]; simp
              · rw [decide_eq_false e]
                have : bs[j].toNat ≠ (byteAt part.length l[i].1).toNat := fun h => e (UInt8.toNat_inj.1 h)
                simp; omega
          rintro vs g w7 ⟨rfl, rfl⟩
          refine xi (r := ((j + 1 : Nat) : Int)) (by rw [wrapI (by omega)]; omega) ?_
          exact xnext (bs.length - (j + 1)) (by omega) ⟨j + 1, rfl, rfl, by omega, he6.transN hd6⟩
        · have : j = bs.length := by omega
          subst this
          rw [List.take_length]
          have hbel : belowK part bs l[i] = decide (byteAt part.length l[i].1 ∈ bs) := by
            unfold belowK
            rw [decide_eq_true (show l[i].1.length ≠ part.length by omega), Bool.true_and]
          cases hq : decide (byteAt part.length l[i].1 ∈ bs) with
          | false =>
            rw [hq] at hbel
            refine xifF rfl ?_
            rw [← htk, List.filter_append, List.filter_cons_of_neg (by rw [hbel]; simp), List.filter_nil, List.append_nil]
            exact ⟨_, _, _, _, rfl, hso5.extN he6, hE6⟩
          | true =>
            rw [hq] at hbel
            refine xifT rfl ?_
            refine ha3.rd0 hE6 i rfl hil fun kv2 hkv2 => ?_
            show XNew w6 [kv2, u64 l[i].2] T_ref01_Pair _
            refine xnew fun c w7 hc hbl hz7 he7 => ?_
            have hsl : Sl w7 (tyQ T_ref01_Pair) (.slice (some ⟨c, 0, none⟩) 1 1) 2 1 [kv2, u64 l[i].2] := hbl.sln rfl
            refine SO.app (m := [l[i]]) ei_ref (hso5.extN (he6.transN he7)) (hE6.transN he7) hsl (PC.sing hkv2 (ha3.get hil)) (by simp only [List.length_append, List.length_singleton]; omega) fun out' w8 hso8 he8 _ _ => ?_
            rw [← htk, List.filter_append, List.filter_cons_of_pos (by rw [hbel]), List.filter_nil, ← List.append_assoc]
            exact ⟨_, _, _, _, rfl, hso8, he8⟩
    · rintro vs g w6 ⟨y1, y2, y3, out', rfl, hso6, he6⟩
      refine xi (r := ((i + 1 : Nat) : Int)) (by rw [wrapI (by omega)]; omega) ?_
      exact xnext (l.length - (i + 1)) (by omega) ⟨i + 1, _, _, _, _, rfl, rfl, by omega, hso6, he6⟩
  · have : i = l.length := by omega
    subst this
    rw [List.take_length] at hso5
    rw [hLK]
    exact ⟨hso5.ps he5 (.inr rfl), hE3.transN he5⟩
end
end law16
end Go.Proofs.YthnegkjhciakpaaGreatDoor
