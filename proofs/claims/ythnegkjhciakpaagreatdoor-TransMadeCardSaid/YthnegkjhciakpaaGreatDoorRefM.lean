/-  the reference of layer 13: how many nodes a tree has.  -/
import Derived.Test.YthnegkjhciakpaaGreatDoorRefK
import Derived.Test.YthnegkjhciakpaaGreatDoorCanon
namespace Go.Proofs.YthnegkjhciakpaaGreatDoor
open Go Go.RowKit X
set_option linter.unusedSimpArgs false
set_option linter.unusedVariables false
set_option linter.unusedSectionVars false
variable [Floor]
theorem sum_take_le (l : List Nat) (i : Nat) : (l.take i).sum ≤ l.sum := by
  conv => rhs; rw [← List.take_append_drop i l]
  rw [List.sum_append]
  omega
theorem c_rMade : ∀ (e : E) {w : World} {cs : List Value}, RC w (fun _ => True) e cs → e.size ≤ 1099511627776 → Ret P n_ref13_Made [.agg cs.toArray] w fun r w' => r = .int .i64 e.size ∧ Ext No w w' := by
  intro e
  induction e with
  | nil =>
    intro w cs hrc _
    have : cs = zero6 := hrc
    subst this
    refine W_ref13_Made ?_
    refine xnew fun nb w1 hnb hblk hz he => ?_
    have hblk : Blk w1 nb zero6 T_ref13_Node := hblk
    refine hblk.ld (o := 0) (v := .int .i64 0) rfl ?_
    exact xifT rfl ⟨rfl, he⟩
  | node part val kids ih =>
    intro w cs hrc hn
    obtain ⟨vp, vb, vk, cells, rfl, hvp, hvb, hvk, hkids, hpl, hv64⟩ := hrc
    have hsz := E.size_node part val kids
    rw [hsz] at hn ⊢
    refine W_ref13_Made ?_
    refine xnew fun nb w1 hnb hblk hz he => ?_
    have hblk : Blk w1 nb [.int .i64 (kindR (dom fun c => (kids c).opt).length), vp, .bool val.isSome, u64 (val.getD 0), vb, vk] T_ref13_Node := by simpa [cellsV] using hblk
    have hcl : (dom fun c => (kids c).opt).length ≤ 256 := cnt_le _
    have hkr : kindR (dom fun c => (kids c).opt).length ≠ 0 := by
      unfold kindR kindN
      repeat' split
      all_goals omega
    generalize kindR (dom fun c => (kids c).opt).length = kd at hblk hkr
    refine hblk.ld (o := 0) (v := .int .i64 kd) rfl ?_
    refine xifF (by simp; omega) ?_
    refine xloop (fun nn vs w' => ∃ i : Nat, vs = [.int .i64 i, .int .i64 ((((dom fun c => (kids c).opt).take i).map fun c => (kids c).size).sum + 1 : Nat)] ∧ nn = (dom fun c => (kids c).opt).length - i ∧ i ≤ (dom fun c => (kids c).opt).length ∧ Ext No w1 w') (dom fun c => (kids c).opt).length
      ⟨0, by simp, rfl, by omega, Ext.refl _ _⟩ ?_
    rintro nn vs g w2 ⟨i, rfl, rfl, hi, he2⟩
    have hb2 := hblk.ext he2 fun h => h
    refine hb2.ld (o := 5) (v := vk) rfl ?_
    refine xLen_sl hvk ?_
    refine xifD (fun hlt => ?_) fun hge => ?_
    · have hil : i < (dom fun c => (kids c).opt).length := by omega
      generalize hcc : (dom fun c => (kids c).opt)[i] = c
      have hget : (dom fun c => (kids c).opt)[i]? = some c := by rw [List.getElem?_eq_getElem hil, hcc]
      refine hb2.ld (o := 5) (v := vk) rfl ?_
      refine (hvk.extN (he.transN he2)).rdN i rfl hil ?_
      have h2 : (dom fun c => (kids c).opt).take (i + 1) = (dom fun c => (kids c).opt).take i ++ [c] := by rw [← List.take_append_getElem hil, hcc]
      have hle := sum_take_le ((dom fun c => (kids c).opt).map fun c => (kids c).size) (i + 1)
      rw [← List.map_take, h2, List.map_append, List.sum_append] at hle
      have hle : (((dom fun c => (kids c).opt).take i).map fun c => (kids c).size).sum + (kids c).size ≤ ((dom fun c => (kids c).opt).map fun c => (kids c).size).sum := by simpa using hle
      refine (ih c ((hkids i c hget).extN (he.transN he2)) (by omega)).mono ?_
      rintro _ w3 ⟨rfl, he3⟩
      refine xi (r := (((((dom fun c => (kids c).opt).take i).map fun c => (kids c).size).sum + 1 + (kids c).size : Nat) : Int)) (by rw [wrapI (by omega)]; omega) ?_
      refine xi (r := ((i + 1 : Nat) : Int)) (by rw [wrapI (by omega)]; omega) ?_
      refine xnext ((dom fun c => (kids c).opt).length - (i + 1)) (by omega) ⟨i + 1, ?_, rfl, by omega, he2.transN he3⟩
      rw [h2, List.map_append, List.sum_append]
      simp
      omega
    · have : i = (dom fun c => (kids c).opt).length := by omega
      subst this
      rw [List.take_length]
      exact ⟨rfl, he.transN he2⟩
end Go.Proofs.YthnegkjhciakpaaGreatDoor
