/-  rows that a law makes: of versions, of pairs; whether pairs may be.  -/
import Derived.Test.YtlhjfenpmnejoaaGreatDoorVer
namespace Go.Proofs.YtlhjfenpmnejoaaGreatDoor
open Go Go.RowKit X
set_option linter.unusedSimpArgs false
set_option linter.unusedVariables false
set_option linter.unusedSectionVars false
variable [Floor]
theorem X.Sl.rd1K {w : World} {T : Nat → TypeId → Prop} {v : Value} {n : Nat} {cells : List Value} {K : Value → Value → Prop} {kd : IntKind} {i : Int} {x : Value} (h : Sl w T v 1 n cells) (m : Nat) (hi : i = (m : Int)) (hm : m < n) (hx : cells[m]? = some x)
    (k : ∀ p, (∀ w', Sl w' T v 1 n cells → xKeep1 w' p x) → K p x) : xIxS v (.int kd i) 1 fun u => xAt u fun a => XLd w a fun y => K u y := by
  have key : ∀ w', Sl w' T v 1 n cells → ∃ a cap, v = .slice (some a) n cap ∧ w'.cell? (a.add (m * 1)) = some x := by
    intro w' h1
    obtain ⟨a, cap, rfl, hc⟩ := Sl.cell h1 hm (Nat.zero_lt_one)
    refine ⟨a, cap, rfl, ?_⟩
    simp only [Nat.mul_one, Nat.add_zero, Addr.add_zero'] at hc ⊢
    rw [hc, hx]
  obtain ⟨a, cap, rfl, hc⟩ := key w h
  refine ⟨m, hi, hm, ⟨_, hc, k _ fun w' h' => ?_⟩⟩
  obtain ⟨a', cap', e, hc'⟩ := key w' h'
  simp only [Value.slice.injEq, Option.some.injEq] at e
  obtain ⟨rfl, -, rfl⟩ := e
  exact hc'
theorem ei_ver : EI P T_s_p_tree_Version T_p_tree_Version 1 8 (.pointer none) := ⟨by kernel_rfl, by kernel_rfl, by rfl, by omega⟩
theorem ei_sps : EI P T_s_s_ref01_Pair T_s_ref01_Pair 1 24 (.slice none 0 0) := ⟨by kernel_rfl, by kernel_rfl, by rfl, by omega⟩
section
variable {B Bw : Nat} {w w' : World} {e : TypeId} {sz n : Nat} {v : Value} {xs : List Value}
theorem VE.own (h : VE Bw w w') (ho : Own w B e sz v n xs) (hT : ¬ VTy e) (hn : 0 < n) : Own w' B e sz v n xs := by
  obtain ⟨Y, he, hN, -⟩ := h.out
  obtain ⟨g, cap, cur, hv, hg, hb, -⟩ := Own.blk ho hn
  refine ho.ext he fun b hb' hy => ?_
  rw [hv] at hb'
  obtain rfl : g = b := by simpa [Value.ownBlock] using hb'
  obtain ⟨-, cs', T', h1, h2⟩ := hN g hy hb.lt
  exact hT ((hb.inj h1).2 ▸ h2)
theorem VE.blkR {b : Nat} {cs : List Value} {T : TypeId} (h : VE Bw w w') (hb : Blk w b cs T) (hT : ¬ VTy T) : Blk w' b cs T := by
  obtain ⟨Y, he, hN, -⟩ := h.out
  exact hb.ext he fun hy => by
    obtain ⟨-, cs', T', h1, h2⟩ := hN b hy hb.lt
    exact hT ((hb.inj h1).2 ▸ h2)
/-- an element more, to a row that has some -/
theorem app_one {t e ty : TypeId} {bytes : Nat} {z x : Value} {K : Value → World → Prop} (hi : EI P t e 1 bytes z) (ho : Own w B e 1 v n xs) (hB : B ≤ w.heap.size) (hn : 0 < n) (hx : x.oneCell' = true) {a : Nat} (hb : Blk w a [x] e) (hbig : (n + 1) * bytes ≤ 1099511627776) (hb1 : 0 < bytes)
    (k : ∀ v' w' g, Own w' B e 1 v' (n + 1) (xs ++ [x]) → Ext (· = g) w w' → B ≤ g → (∃ cur, Blk w g cur e) → K v' w') : XRun P (Builtin.append_ #[t, t] ty #[v, .slice (some ⟨a, 0, none⟩) 1 1]) w K := by
  obtain ⟨g, cap, cur, hv, hg, hblk, hcap, hcm, -⟩ := Own.blk ho hn
  have hsl : Sl w (tyQ e) (.slice (some ⟨a, 0, none⟩) 1 1) 1 1 [x] := hb.sln rfl
  have hn2 : n + 1 ≤ 1099511627776 := Nat.le_trans (Nat.le_mul_of_pos_right _ hb1) hbig
  refine app_own hi ho hB hsl (fun u hu => by rw [List.mem_singleton.1 hu]; exact hx) (by omega) (by omega) fun v' w' ho' hE _ hb' => k v' w' g ho' (hE.mono fun b _ h => ?_) hg ⟨_, hblk⟩
  rw [hv] at h
  have : g = b := by simpa [Value.ownBlock] using h
  exact this.symm
end
section
variable {B : Nat} {w w1 : World} {wb n j b0 : Nat} {cs : List Value} {Ty : TypeId} {V : Nat → Option (T × Kv)}
theorem nb_one (hb : Blk w b0 cs Ty) (hfl : Floor.n ≤ b0) (hT : Ty ≠ T_uint8) : NB w (· = b0) := fun b hb' _ => by
  have e : b = b0 := hb'
  subst e
  exact ⟨hfl, _, _, hb, hT⟩
/-- a block of the law's own is written -/
theorem VI.one (h : VI B w wb n j V) (hb : Blk w b0 cs Ty) (hfl : Floor.n ≤ b0) (hT : Ty ≠ T_uint8) (hT1 : T_tree_World ≠ Ty) (hT2 : T_tree_Version ≠ Ty) (ho : Oth Ty) (e : Ext (· = b0) w w1) : VI B w1 wb n j V := by
  have hnt : ∀ {t' : T}, Tree w t' → ∀ b', t'.All b' → ¬ b' = b0 := fun ht b' hb' e' => by subst e'; exact ht.not hb ho hb'
  refine ⟨h.lw.ext e fun b hb => by have e : b = b0 := hb; subst e; exact hfl, h.fl, h.mt.ext e fun b hb' he => ?_, h.ge, fun vb t l hv => ?_⟩
  · have e1 : wb = b := hb'
    have e2 : b = b0 := he
    subst e1; subst e2
    exact hT1 (h.wblk.inj hb).2
  · have hV := h.ver vb t l hv
    obtain ⟨d, c, b, h1, -⟩ := hV.blk
    exact hV.ext e (nb_one hb hfl hT) (fun e' => by have e' : vb = b0 := e'; subst e'; exact hT2 (h1.inj hb).2) (hnt hV.ct.tree) (Nat.le_refl _)
theorem nbp_one (hb : Blk w b0 cs Ty) (hfl : Floor.n ≤ b0) (h1 : Ty ≠ T_uint8) (h2 : Ty ≠ T_api_Pair) (h3 : Ty ≠ T_ref01_Pair) : NBP w (· = b0) :=
  ⟨nb_one hb hfl h1, fun b hb' _ => by
    have e : b = b0 := hb'
    subst e
    exact ⟨hfl, _, _, hb, h2⟩, fun b hb' _ => by
    have e : b = b0 := hb'
    subst e
    exact ⟨hfl, _, _, hb, h3⟩⟩
end
section
variable {w : World} {v : Value} {l : Kv}
theorem rises_iff {l : Kv} : Rises l ↔ ∀ i (h : i + 1 < l.length), klt l[i].1 l[i + 1].1 := by
  constructor
  · intro h i hi
    exact List.pairwise_iff_getElem.1 h i (i + 1) (by omega) hi (by omega)
  · intro h
    refine List.pairwise_iff_getElem.2 fun i j hi hj hij => ?_
    induction j with
    | zero => omega
    | succ j ih =>
      by_cases e : i = j
      · subst e; exact h i hj
      · exact klt_trans (ih (by omega) (by omega)) (h j hj)
end
end Go.Proofs.YtlhjfenpmnejoaaGreatDoor
