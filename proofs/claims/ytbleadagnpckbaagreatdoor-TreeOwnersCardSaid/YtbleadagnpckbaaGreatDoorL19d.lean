/-  law19: TreeOwners.  -/
import Derived.Test.YtbleadagnpckbaaGreatDoorL19
namespace Go.Proofs.YtbleadagnpckbaaGreatDoor
open Go Go.RowKit X
set_option linter.unusedSimpArgs false
set_option linter.unusedVariables false
set_option linter.unusedSectionVars false
variable [Floor]
theorem insK_same {l : Kv} {k : Key} {x : Nat} (hr : Rises l) (h : look l k = some x) : insK l k x = l :=
  (insK_rises hr k x).ext hr fun k' => by
    rw [insK_look hr]
    split
    · rename_i e; subst e; exact h.symm
    · rfl
theorem xpeq_ne {w : World} {a b : Nat} {cs ds : List Value} {T T' : TypeId} {K : Value → Prop} (hab : a ≠ b) (ha : Blk w a cs T) (hb : Blk w b ds T') (k : K (.bool false)) : xPEq P w (rp a) (rp b) K :=
  xsame (t := false) (run_sameAddr_other _ (by simp [hab]) ha.h hb.h) k
theorem c_NOwner {w : World} {a : Nat} {x : Value} {cs : List Value} {T : TypeId} (h : Blk w a (x :: cs) T) : Ret P n_node_Node_Owner [rp a] w fun r w' => r = x ∧ w' = w := by
  refine W_node_Node_Owner ?_
  refine xifF rfl ?_
  exact h.ld (v := x) rfl ⟨rfl, rfl⟩
namespace law19
section
variable {w : World} {v : Value} {l : Kv}
theorem l_TreeOwners (hw : Lw w) (hl : Ps w v l) : Ret P n_law19_TreeOwners [v] w fun r w' => r = .bool true ∧ Ext No w w' := by
  refine W_law19_TreeOwners ?_
  refine (c_far (m := 60) hl (by omega)).mono ?_
  rintro r w1 ⟨b, rfl, he1, hb⟩
  have hw1 := hw.extN he1
  cases b with
  | true =>
    refine xifT rfl ?_
    refine (c_alive hw1).mono ?_
    rintro r w2 ⟨rfl, he2⟩
    exact ⟨rfl, he1.transN he2⟩
  | false =>
    refine xifF rfl ?_
    obtain ⟨hl60, hk300⟩ := hb rfl
    have hpri : ∀ i, Pr (sortK (l.take i)) := fun i => Pr.sort (by rw [List.length_take]; omega) fun p h => by have := hk300 p (List.mem_of_mem_take h); omega
    have hlen : ∀ i, (sortK (l.take i)).length ≤ 60 := fun i => Nat.le_trans (sortK_length _) (by rw [List.length_take]; omega)
    refine (c_WNew (B := w1.heap.size) hw1 (Nat.le_refl _) hw1.fl).mono ?_
    rintro _ w2 ⟨rfl, hI2, he2⟩
    refine (c_From hI2 (Ps.none w2) Pr.nil (by omega)).mono ?_
    rintro _ w3 ⟨v0, t0, rfl, -, -, hI3, -, hE3⟩
    have hv3 : updV (fun _ => none) v0 (t0, []) v0 = some (t0, []) := updV_same _ _ _
    generalize updV (fun _ => none) v0 (t0, []) = V at hI3 hv3
    generalize 0 + t0.er.size = n3 at hI3
    have hps2 := hl.extN (he1.transN he2)
    refine xifF rfl ?_
    refine (hE3.ps hps2).len ?_
    refine xloop (fun nn vs w' => ∃ (i vb n j last : Nat) (t : T) (V : Nat → Option (T × Kv)) (y1 y3 y4 y7 y8 : Value), vs = [.int .i64 i, y1, rp vb, y3, y4, .int .u64 last, .bool false, y7, y8] ∧ nn = l.length - i ∧ i ≤ l.length ∧ VI w1.heap.size w' w1.heap.size n j V ∧ V vb = some (t, sortK (l.take i)) ∧ last ≤ j ∧ j ≤ 3 * i + 1 ∧ VE w1.heap.size w2 w') l.length
      ⟨0, v0, _, _, 0, t0, V, _, _, _, _, _, rfl, rfl, by omega, hI3, hv3, by omega, by omega, hE3⟩ ?_
    clear hv3 hI3
    rintro nn vs g w4 ⟨i, vb, n, j, last, t, V, y1, y3, y4, y7, y8, rfl, rfl, hi, hI, hv, hlast, hj, hE⟩
    unfold S_law19_TreeOwners_l1
    have hps := hE.ps hps2
    refine xifD (fun hlt => ?_) fun hge => ?_
    · have hil : i < l.length := by omega
      have hsort := sortK_takeI hil
      refine xj (fun vs w' => ∃ (vb' n' j' last' : Nat) (t' : T) (V' : Nat → Option (T × Kv)) (z0 z1 z2 z3 z5 z6 : Value), vs = [z0, z1, z2, z3, .int .u64 last', z5, z6, rp vb'] ∧ z3 = .bool false ∧ VI w1.heap.size w' w1.heap.size n' j' V' ∧ V' vb' = some (t', sortK (l.take (i + 1))) ∧ last' ≤ j' ∧ j' ≤ 3 * (i + 1) + 1 ∧ VE w1.heap.size w2 w') ?_ ?_
      · refine hps.rd i rfl hil fun kv hkv => ?_
        refine xnew fun b w5 hb hblk hz he5 => ?_
        refine xstoreVar hblk (by kernel_rfl) (by simp) ?_ fun w6 hb6 hz6 he6 => ?_
        · intro u hu
          simp only [List.mem_cons, List.mem_nil_iff, or_false] at hu
          rcases hu with rfl | rfl
          · exact hkv.one1
          · rfl
        have hb6' : Blk w6 b [kv, u64 l[i].2] T_ref01_Pair := by simpa using hb6
        have hE6 : Ext No w4 w6 := he5.trans1 he6 (by omega)
        have hI6 := hI.extN hE6
        have hx := hps.get hil
        have hkl := hk300 _ (List.getElem_mem hil)
        refine (c_WOwner hI6.mt (by omega)).mono ?_
        rintro _ w7 ⟨rfl, hm7, he7⟩
        have hI7 := hI6.step he7 hm7 (by omega)
        have hE7 : VE w1.heap.size w4 w7 := (VE.no hE6).trans (hI6.stepE he7)
        have hbne : b ≠ w1.heap.size := fun e => by have := hI.sizeB; have := hI.wblk.lt; omega
        have hb7 := hb6'.ext he7 hbne
        refine hb7.ld (v := kv) rfl ?_
        refine hb7.ld (v := u64 l[i].2) rfl ?_
        refine (c_VPut (k := l[i].1) (x := l[i].2) hI7 hv (hE7.bs hkv) (by omega) hx (by omega) (by have := hlen i; omega)).mono ?_
        rintro _ w8 ⟨hE8, vb', rfl, hput⟩
        have hE48 := hE7.trans hE8
        have hE28 := hE.trans hE48
        refine xj (fun vs w' => vs = [.bool false] ∧ w8 = w') ?_ ?_
        · refine xifF rfl ?_
          exact ⟨by simp; omega, rfl⟩
        rintro vs g w9 ⟨rfl, rfl⟩
        refine xifF rfl ?_
        rcases hput with ⟨h1, rfl, h2⟩ | ⟨h1, h2, h3, t', n', h4, -, hptr, htop⟩
        · refine xpeq_rp ?_
          refine xifT rfl ?_
          rw [hsort, insK_same (hpri i).rises h1]
          exact ⟨_, _, _, j + 1, t, V, _, _, _, _, _, _, rfl, rfl, h2, hv, by omega, by omega, hE28⟩
        · have hne : vb' ≠ vb := fun e => by subst e; rw [hv] at h2; cases h2
          have hv' : updV V vb' (t', insK (sortK (l.take i)) l[i].1 l[i].2) vb' = some (t', insK (sortK (l.take i)) l[i].1 l[i].2) := updV_same _ _ _
          have hv'' : updV V vb' (t', insK (sortK (l.take i)) l[i].1 l[i].2) vb = some (t, sortK (l.take i)) := (updV_other hne.symm).trans hv
          rw [← hsort] at h4 hv' hv''
          obtain ⟨d1, c1, b1, hbb1, -⟩ := (h4.ver _ _ _ hv').blk
          obtain ⟨d2, c2, b2, hbb2, -⟩ := (h4.ver _ _ _ hv'').blk
          refine xpeq_ne hne hbb1 hbb2 ?_
          refine xifF rfl ?_
          refine (c_VRoot h4 hv').mono ?_
          rintro _ w9 ⟨rfl, rfl⟩
          have htop := htop.resolve_left hptr
          have htr := (h4.ver _ _ _ hv').ct.tree
          cases t' with
          | nil => exact htop.elim
          | node a ow part val ks kids =>
            have htop : ow = j + 1 + 1 := htop
            subst htop
            obtain ⟨pv, hba, -⟩ := htr.1.blk
            refine (c_NOwner hba).mono ?_
            rintro _ w10 ⟨rfl, rfl⟩
            refine (c_WOwner h4.mt (by omega)).mono ?_
            rintro _ w11 ⟨rfl, hm11, he11⟩
            have hI11 := h4.step he11 hm11 (by omega)
            refine xj (fun vs w' => vs = [.bool false] ∧ w11 = w') ?_ ?_
            · refine xifF (by simp; omega) ?_
              exact ⟨by simp; omega, rfl⟩
            rintro vs g w12 ⟨rfl, rfl⟩
            refine xifF rfl ?_
            exact ⟨_, _, _, _, _, _, _, _, _, _, _, _, rfl, rfl, hI11, hv', by omega, by omega, hE28.trans (h4.stepE he11)⟩
      rintro vs g w5 ⟨vb', n', j', last', t', V', z0, z1, z2, z3, z5, z6, rfl, rfl, hI', hv', hl', hj', hE'⟩
      refine xi (r := ((i + 1 : Nat) : Int)) (by rw [wrapI (by omega)]; omega) ?_
      exact xnext (l.length - (i + 1)) (by omega) ⟨i + 1, vb', n', j', last', t', V', _, _, _, _, _, rfl, rfl, by omega, hI', hv', hl', hj', hE'⟩
    · have : i = l.length := by omega
      subst this
      rw [List.take_length] at hv
      refine xj (fun vs w' => vs = [.bool true] ∧ Ext No w w') ?_ ?_
      · refine (c_VLen hI hv).mono ?_
        rintro _ w5 ⟨rfl, hI5, hE5⟩
        refine (c_rSort (hE5.ps hps) (by omega) (fun p h => by have := hk300 p h; omega)).mono ?_
        rintro vl w6 ⟨hso, he6⟩
        refine (hso.ps he6 (.inr rfl)).len ?_
        refine xifT (by simp) ?_
        have hI6 := hI5.extN he6
        refine (c_alive hI6.lw).mono ?_
        rintro r w7 ⟨rfl, he7⟩
        exact ⟨rfl, (((hE.trans hE5).transN he6).start (he1.transN he2) (by have := he1.size; omega)).transN he7⟩
      · rintro vs g w5 ⟨rfl, he⟩
        exact ⟨rfl, he⟩
end
end law19
end Go.Proofs.YtbleadagnpckbaaGreatDoor
