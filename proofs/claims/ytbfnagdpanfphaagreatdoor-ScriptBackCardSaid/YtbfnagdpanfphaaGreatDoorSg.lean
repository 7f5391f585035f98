/-  scripts: words read back: numbers, values, keys, ways.  -/
import Derived.Test.YtbfnagdpanfphaaGreatDoorSf
section
namespace Go.Proofs.YtbfnagdpanfphaaGreatDoor
open Go Go.RowKit X
set_option linter.unusedSimpArgs false
set_option linter.unusedVariables false
set_option linter.unusedSectionVars false
/-! ### plain -/
def Dig (l : List UInt8) : Prop := ∀ c ∈ l, 48 ≤ c.toNat ∧ c.toNat ≤ 57
theorem dig_of {d : Nat} (h : d < 10) : 48 ≤ (UInt8.ofNat (48 + d)).toNat ∧ (UInt8.ofNat (48 + d)).toNat ≤ 57 ∧ (UInt8.ofNat (48 + d)).toNat = 48 + d := by
  have : (UInt8.ofNat (48 + d)).toNat = 48 + d := by
    rw [UInt8.toNat_ofNat']
    omega
  omega
theorem decK_dig (n : Nat) : Dig (decK n) := by
  induction n using Nat.strongRecOn with
  | ind n ih =>
    intro c hc
    by_cases e : n < 10
    · rw [decK_small e] at hc
      rw [List.mem_singleton.1 hc]
      have := dig_of e; omega
    · rw [decK_big e] at hc
      rcases List.mem_append.1 hc with hc | hc
      · exact ih (n / 10) (by omega) c hc
      · rw [List.mem_singleton.1 hc]
        have := dig_of (d := n % 10) (by omega); omega
def valD (l : List UInt8) : Nat := l.foldl (fun a c => 10 * a + (c.toNat - 48)) 0
theorem valD_snoc (l : List UInt8) (c : UInt8) : valD (l ++ [c]) = 10 * valD l + (c.toNat - 48) := by simp [valD]
theorem valD_dec (n : Nat) : valD (decK n) = n := by
  induction n using Nat.strongRecOn with
  | ind n ih =>
    by_cases e : n < 10
    · rw [decK_small e]
      show 10 * 0 + ((UInt8.ofNat (48 + n)).toNat - 48) = n
      have := dig_of e; omega
    · rw [decK_big e, valD_snoc, ih (n / 10) (by omega)]
      have := dig_of (d := n % 10) (by omega); omega
theorem valD_take {l : List UInt8} {i : Nat} (h : i < l.length) : valD (l.take (i + 1)) = 10 * valD (l.take i) + (l[i].toNat - 48) := by
  rw [← List.take_append_getElem h, valD_snoc]
theorem valD_le {l : List UInt8} (i : Nat) : valD (l.take i) ≤ valD l := by
  have key : ∀ k, i ≤ k → valD (l.take i) ≤ valD (l.take k) := by
    intro k hk
    induction k with
    | zero => rw [show i = 0 by omega]; exact Nat.le_refl _
    | succ k ih =>
      rcases Nat.lt_or_ge k i with h | h
      · rw [show i = k + 1 by omega]; exact Nat.le_refl _
      · have h1 := ih h
        rcases Nat.lt_or_ge k l.length with h2 | h2
        · rw [valD_take h2]; omega
        · have e : l.take (k + 1) = l.take k := by rw [List.take_of_length_le (show l.length ≤ k + 1 by omega), List.take_of_length_le h2]
          rw [e]; exact h1
  rcases Nat.lt_or_ge l.length i with h | h
  · rw [List.take_of_length_le (by omega)]; exact Nat.le_refl _
  · have := key l.length h
    rwa [List.take_length] at this
theorem decK_ne (n : Nat) : decK n ≠ [] := fun e => by have := decK_pos n; rw [e] at this; simp at this
theorem decK_lead {n : Nat} (h : n ≠ 0) : ∃ c r, decK n = c :: r ∧ c ≠ 48 := by
  induction n using Nat.strongRecOn with
  | ind n ih =>
    by_cases e : n < 10
    · refine ⟨_, _, decK_small e, fun e1 => ?_⟩
      have h1 := congrArg UInt8.toNat e1
      have := dig_of e
      have h2 : (48 : UInt8).toNat = 48 := rfl
      omega
    · obtain ⟨c, r, h1, h2⟩ := ih (n / 10) (by omega) (by omega)
      exact ⟨c, r ++ [UInt8.ofNat (48 + n % 10)], by rw [decK_big e, h1]; rfl, h2⟩
theorem decK_le {d n : Nat} (h : n < 10 ^ (d + 1)) : (decK n).length ≤ d + 1 := by
  induction d generalizing n with
  | zero => rw [decK_small (by simpa using h)]; simp
  | succ d ih =>
    by_cases e : n < 10
    · rw [decK_small e]; simp
    · rw [decK_big e, List.length_append]
      have := ih (n := n / 10) (by rw [Nat.div_lt_iff_lt_mul (by omega)]; rw [Nat.pow_succ] at h; exact h)
      simp; omega
/-- a number's digits: one nought, or no nought ahead -/
theorem decK_form (n : Nat) : decK n = [48] ∨ ∃ c r, decK n = c :: r ∧ c ≠ 48 := by
  by_cases h : n = 0
  · subst h; exact .inl (by decide)
  · exact .inr (decK_lead h)
theorem hexK_get {k : Key} {i : Nat} (h : i < k.length) : (hexK (k.drop i)) = hexD (k[i].toNat / 16) :: hexD (k[i].toNat % 16) :: hexK (k.drop (i + 1)) := by
  rw [List.drop_eq_getElem_cons h]
  rfl
def hexS : List UInt8 := [48, 49, 50, 51, 52, 53, 54, 55, 56, 57, 97, 98, 99, 100, 101, 102]
theorem hexD_ix : ∀ d : Fin 16, Lib.indexByte hexS (hexD d.1) = (d.1 : Int) := by decide +kernel
theorem hex_or : ∀ c : Fin 256, IntKind.i64.wrap ((BitVec.ofInt IntKind.i64.bits (((c.1 / 16 * 16 : Nat) : Int)) ||| BitVec.ofInt IntKind.i64.bits ((c.1 % 16 : Nat) : Int)).toNat : Int) = ((c.1 : Nat) : Int) := by decide +kernel
variable [Floor]
section
variable {w w' : World} {s : List UInt8} {k : Key}
/-! ### an error that is nil -/
def isIfc : Option TypeDesc → Bool
  | some (.interface _) => true
  | _ => false
theorem isIfc_elim {u : Option TypeDesc} (h : isIfc u = true) : ∃ ms, u = some (.interface ms) := by
  unfold isIfc at h
  split at h
  · exact ⟨_, rfl⟩
  · cases h
theorem t_error : ∃ ms, P.underlying T_error = some (.interface ms) := isIfc_elim (by kernel_rfl)
theorem xifcNil {t : Tmp} {K : Bool → Prop} (k : K true) : xIfc P .neq T_error (.tmp t) (.const .nilIface) .nilIface .nilIface w K := by
  obtain ⟨ms, hu⟩ := t_error
  refine (⟨true, ?_, ?_, k⟩ : XEqv P .neq T_error (.tmp t) (.const .nilIface) .nilIface .nilIface w K)
  · rfl
  · obtain ⟨d, hd⟩ : ∃ d, Op.maxDepth = d + 1 := ⟨_, rfl⟩
    unfold Op.equal
    rw [hd]
    unfold Op.equalIn
    simp only [Sem.run_bind, run_underlying hu, Result.andThen_ok]
    rfl
/-! ### numbers without a sign -/
theorem c_digitsOnly (n : Nat) (hn : (decK n).length ≤ 100) : Ret P n_script_digitsOnly [str (decK n)] w fun r w' => r = .bool true ∧ Ext No w w' := by
  refine W_script_digitsOnly ?_
  refine xbytes fun v w1 hv he => ?_
  have hd := decK_dig n
  refine hv.len ?_
  refine xloop (fun m vs w' => ∃ (i : Nat) (x y : Value), vs = [.int .i64 i, x, y] ∧ i ≤ (decK n).length ∧ m = (decK n).length - i ∧ w' = w1) (decK n).length ⟨0, _, _, rfl, by omega, rfl, rfl⟩ ?_
  rintro m vs g w2 ⟨i, x, y, rfl, hi, rfl, rfl⟩
  refine xifD (fun hlt => ?_) fun hge => ?_
  · have hil : i < (decK n).length := by omega
    have hc := hd _ (List.getElem_mem hil)
    refine hv.rd i hil rfl ?_
    refine xjd ?_
    refine xifF (decide_eq_false (by omega)) ?_
    intro g
    refine xifF (decide_eq_false (by omega)) ?_
    refine xi (r := ((i + 1 : Nat) : Int)) (by rw [wrapI (by omega)]; omega) ?_
    exact xnext ((decK n).length - (i + 1)) (by omega) ⟨i + 1, _, _, rfl, by omega, rfl, rfl⟩
  · refine xjd ?_
    refine xseq ?_
    refine xifD (fun e => fun g => ⟨rfl, he⟩) fun e => ?_
    refine xsne ?_
    refine xifT (by simp [decK_ne n]) ?_
    rcases decK_form n with h | ⟨c, r, h, hc⟩
    · exact absurd h e
    rw [h]
    refine xixstr 0 c rfl rfl ?_
    intro g
    refine ⟨?_, he⟩
    have : ((c.toNat : Int) != 48) = true := by
      simp
      intro e1
      exact hc (UInt8.toNat_inj.1 (by show c.toNat = 48; omega))
    show Value.bool ((c.toNat : Int) != 48) = .bool true
    rw [this]
set_option maxRecDepth 100000 in
theorem c_iParseUint {n : Nat} (hn : n < 18446744073709551616) : Ret P n_istrconv_ParseUint [str (decK n), .int .i64 10, .int .i64 64] w fun r w' => r = .tuple #[.int .u64 n, .nilIface] ∧ Ext No w w' := by
  have hd := decK_dig n
  have hl := decK_len' n hn
  have hval := valD_dec n
  refine W_istrconv_ParseUint ?_
  refine xseq ?_
  refine xifF (decide_eq_false (decK_ne n)) ?_
  refine xj (fun vs w' => ∃ a b c d e, vs = [a, b, .int .i64 10, c, str (decK n), d, e, .int .u64 0, .nilIface] ∧ w' = w) ?_ ?_
  · refine xjd ?_
    refine xifT rfl ?_
    intro g
    exact xifT rfl ⟨_, _, _, _, _, rfl, rfl⟩
  rintro vs g w1 ⟨a, b, c, d, e, rfl, rfl⟩
  refine xj (fun vs w' => vs = [.int .i64 64, .int .u64 0, .nilIface] ∧ w' = w1) ?_ ?_
  · refine xifF rfl ?_
    refine xjd ?_
    refine xifF rfl ?_
    intro g
    exact xifF rfl ⟨rfl, rfl⟩
  rintro vs g w2 ⟨rfl, rfl⟩
  refine xj (fun vs w' => ∃ a b, vs = [a, .int .u64 1844674407370955162, b] ∧ w' = w2) ?_ ?_
  · exact xifT rfl ⟨_, _, rfl, rfl⟩
  rintro vs g w3 ⟨a', b', rfl, rfl⟩
  refine xi (r := 64) (by rfl) ?_
  refine xi (r := 0) (by rfl) ?_
  refine xi (r := 18446744073709551615) (by rfl) ?_
  refine xbytes fun v w4 hv he => ?_
  refine hv.len ?_
  refine xloop (fun m vs w' => ∃ (i : Nat) (x1 x2 x3 x5 x6 x7 x8 x10 : Value), vs = [.int .i64 i, x1, x2, x3, .bool false, x5, x6, x7, x8, .int .u64 (valD ((decK n).take i) : Nat), x10] ∧ i ≤ (decK n).length ∧ m = (decK n).length - i ∧ w' = w4) (decK n).length ⟨0, _, _, _, _, _, _, _, _, rfl, by omega, rfl, rfl⟩ ?_
  rintro m vs g w5 ⟨i, x1, x2, x3, x5, x6, x7, x8, x10, rfl, hi, rfl, rfl⟩
  refine xifD (fun hlt => ?_) fun hge => ?_
  · have hil : i < (decK n).length := by omega
    obtain ⟨hc1, hc2⟩ := hd _ (List.getElem_mem hil)
    have hv1 := valD_take hil
    have hv2 := valD_le (l := decK n) (i + 1)
    have hcut : valD ((decK n).take i) < 1844674407370955162 := by omega
    refine xj (fun vs w' => ∃ a b c d e f g h, vs = [a, b, c, .bool false, d, e, f, g, .int .u64 (valD ((decK n).take (i + 1)) : Nat), h] ∧ w' = w5) ?_ ?_
    · refine hv.rd i hil rfl ?_
      refine xj (fun vs w' => ∃ a b c d e f, vs = [a, .bool false, b, .int .u8 (((decK n)[i].toNat - 48 : Nat)), c, d, e] ∧ w' = w5) ?_ ?_
      · refine xjd ?_
        refine xifF (by simp; omega) ?_
        intro g
        refine xifF rfl ?_
        refine xjd ?_
        refine xifT (decide_eq_true (by omega)) ?_
        intro g
        refine xifT (decide_eq_true (by omega)) ?_
        refine xi (r := (((decK n)[i].toNat - 48 : Nat) : Int)) (by rw [wrapU8 (by omega)]; omega) ?_
        exact ⟨_, _, _, _, _, _, rfl, rfl⟩
      rintro vs g w6 ⟨a, b, c, d, e, f, rfl, rfl⟩
      refine xi (r := 10) (by rfl) ?_
      refine xifF (decide_eq_false (by omega)) ?_
      refine xifF (decide_eq_false (by omega)) ?_
      refine xi (r := 10) (by rfl) ?_
      refine xi (r := ((valD ((decK n).take i) * 10 : Nat) : Int)) (by rw [wrapU64 (by omega)]; omega) ?_
      refine xi (r := (((decK n)[i].toNat - 48 : Nat) : Int)) (wrapU64 (by omega)) ?_
      refine xi (r := ((valD ((decK n).take (i + 1)) : Nat) : Int)) (by rw [wrapU64 (by omega)]; omega) ?_
      refine xjd ?_
      refine xifF (decide_eq_false (by omega)) ?_
      intro g
      refine xifF (decide_eq_false (by omega)) ?_
      exact ⟨_, _, _, _, _, _, _, _, rfl, rfl⟩
    rintro vs g w6 ⟨a, b, c, d, e, f, g', h, rfl, rfl⟩
    refine xi (r := ((i + 1 : Nat) : Int)) (by rw [wrapI (by omega)]; omega) ?_
    exact xnext ((decK n).length - (i + 1)) (by omega) ⟨i + 1, _, _, _, _, _, _, _, _, rfl, by omega, rfl, rfl⟩
  · have : i = (decK n).length := by omega
    subst this
    refine xjd ?_
    refine xifF rfl ?_
    intro g
    refine xifF rfl ⟨?_, he⟩
    show Value.tuple #[.int .u64 (valD ((decK n).take (decK n).length) : Nat), .nilIface] = _
    rw [List.take_length, hval]
theorem c_ParseUint {n : Nat} (hn : n < 18446744073709551616) : Ret P n_strconv_ParseUint [str (decK n), .int .i64 10, .int .i64 64] w fun r w' => r = .tuple #[.int .u64 n, .nilIface] ∧ Ext No w w' := by
  refine W_strconv_ParseUint ?_
  refine (c_iParseUint hn).mono ?_
  rintro r w1 ⟨rfl, he⟩
  refine xifcNil ?_
  exact xifF rfl ⟨rfl, he⟩
theorem c_value {n : Nat} (hn : n < 18446744073709551616) : Ret P n_script_value [str (decK n)] w fun r w' => r = .tuple #[.int .u64 n, .int .i64 0] ∧ Ext No w w' := by
  have hl := decK_len' n hn
  refine W_script_value ?_
  refine (c_digitsOnly n (by omega)).mono ?_
  rintro r w1 ⟨rfl, he⟩
  refine xifF rfl ?_
  refine (c_ParseUint hn).mono ?_
  rintro r w2 ⟨rfl, he2⟩
  refine xifcNil ?_
  exact xifF rfl ⟨rfl, he.transN he2⟩
/-! ### numbers -/
theorem numK_eq (n : Int) : numK n = (if n < 0 then [45] else []) ++ decK n.natAbs := by
  unfold numK
  split
  · rw [show (-n).toNat = n.natAbs by omega]; rfl
  · rw [show n.toNat = n.natAbs by omega]; rfl
set_option maxRecDepth 100000 in
theorem c_iAtoi {n : Int} (hn : -999999999 ≤ n ∧ n ≤ 999999999) : Ret P n_istrconv_Atoi [str (numK n)] w fun r w' => r = .tuple #[.int .i64 n, .nilIface] ∧ Ext No w w' := by
  have hl := decK_le (d := 8) (n := n.natAbs) (by omega)
  have hd := decK_dig n.natAbs
  have hval := valD_dec n.natAbs
  have hp := decK_pos n.natAbs
  obtain ⟨c0, r0, hcr⟩ : ∃ c r, decK n.natAbs = c :: r := by
    cases h : decK n.natAbs with
    | nil => exact absurd h (decK_ne _)
    | cons c r => exact ⟨c, r, rfl⟩
  have hc0 := hd c0 (by rw [hcr]; simp)
  have hnl : (numK n).length ≤ 10 := by rw [numK_eq]; split <;> simp <;> omega
  have hnp : 1 ≤ (numK n).length := by rw [numK_eq]; simp; omega
  refine W_istrconv_Atoi ?_
  refine xlens ?_
  refine xj (fun vs w' => vs = [.bool true] ∧ w' = w) ?_ ?_
  · refine xifT (decide_eq_true (by omega)) ⟨?_, rfl⟩
    rw [decide_eq_true (by omega)]
  rintro vs g w1 ⟨rfl, rfl⟩
  refine xifT rfl ?_
  obtain ⟨hd0, tl0, hnum, hneg⟩ : ∃ hd tl, numK n = hd :: tl ∧ (n < 0 → hd = 45 ∧ tl = decK n.natAbs) ∧ (¬ n < 0 → hd.toNat ≠ 45 ∧ hd.toNat ≠ 43 ∧ numK n = decK n.natAbs) := by
    by_cases h : n < 0
    · exact ⟨45, decK n.natAbs, by rw [numK_eq, if_pos h]; rfl, fun _ => ⟨rfl, rfl⟩, fun e => absurd h e⟩
    · refine ⟨c0, r0, by rw [numK_eq, if_neg h, hcr]; rfl, fun e => absurd e h, fun _ => ⟨by omega, by omega, by rw [numK_eq, if_neg h]; rfl⟩⟩
  obtain ⟨hn1, hn2⟩ := hneg
  refine xj (fun vs w' => vs = [str (decK n.natAbs), .int .i64 0, .nilIface] ∧ w' = w1) ?_ ?_
  · refine xj (fun vs w' => vs = [.bool (decide (n < 0))] ∧ w' = w1) ?_ ?_
    · refine xixstr 0 hd0 rfl (by rw [hnum]; rfl) ?_
      by_cases h : n < 0
      · obtain ⟨e1, -⟩ := hn1 h
        subst e1
        refine xifT rfl ⟨?_, rfl⟩
        rw [decide_eq_true h]
      · obtain ⟨e1, e2, -⟩ := hn2 h
        refine xifF (by simp; omega) ?_
        refine xixstr 0 hd0 rfl (by rw [hnum]; rfl) ⟨?_, rfl⟩
        rw [decide_eq_false h]
        have : ((hd0.toNat : Int) == 43) = false := by simp; omega
        show [Value.bool ((hd0.toNat : Int) == 43)] = _
        rw [this]
    rintro vs g w2 ⟨rfl, rfl⟩
    refine xifD (fun h => ?_) fun h => ?_
    · obtain ⟨e1, e2⟩ := hn1 h
      refine xcutstrL 1 rfl (by omega) ?_
      refine xlens ?_
      have e3 : (numK n).drop 1 = decK n.natAbs := by rw [hnum, ← e2]; rfl
      rw [e3]
      exact xifF (decide_eq_false (by omega)) ⟨rfl, rfl⟩
    · obtain ⟨-, -, e3⟩ := hn2 h
      refine ⟨?_, rfl⟩
      rw [e3]
  rintro vs g w2 ⟨rfl, rfl⟩
  refine xbytes fun v w4 hv he => ?_
  refine hv.len ?_
  refine xloop (fun m vs w' => ∃ (i : Nat) (x1 x2 x3 : Value), vs = [.int .i64 i, x1, x2, x3, .int .i64 (valD ((decK n.natAbs).take i) : Nat)] ∧ i ≤ (decK n.natAbs).length ∧ m = (decK n.natAbs).length - i ∧ w' = w4) (decK n.natAbs).length ⟨0, _, _, _, rfl, by omega, rfl, rfl⟩ ?_
  rintro m vs g w5 ⟨i, x1, x2, x3, rfl, hi, rfl, rfl⟩
  refine xifD (fun hlt => ?_) fun hge => ?_
  · have hil : i < (decK n.natAbs).length := by omega
    obtain ⟨hc1, hc2⟩ := hd _ (List.getElem_mem hil)
    have hv1 := valD_take hil
    have hv2 := valD_le (l := decK n.natAbs) (i + 1)
    refine hv.rd i hil rfl ?_
    refine xi (r := (((decK n.natAbs)[i].toNat - 48 : Nat) : Int)) (by rw [wrapU8 (by omega)]; omega) ?_
    refine xifF (decide_eq_false (by omega)) ?_
    refine xi (r := ((valD ((decK n.natAbs).take i) * 10 : Nat) : Int)) (by rw [wrapI (by omega)]; omega) ?_
    refine xi (r := (((decK n.natAbs)[i].toNat - 48 : Nat) : Int)) (wrapI (by omega)) ?_
    refine xi (r := ((valD ((decK n.natAbs).take (i + 1)) : Nat) : Int)) (by rw [wrapI (by omega)]; omega) ?_
    refine xi (r := ((i + 1 : Nat) : Int)) (by rw [wrapI (by omega)]; omega) ?_
    exact xnext ((decK n.natAbs).length - (i + 1)) (by omega) ⟨i + 1, _, _, _, rfl, by omega, rfl, rfl⟩
  · have : i = (decK n.natAbs).length := by omega
    subst this
    rw [List.take_length, hval]
    refine xj (fun vs w' => vs = [.int .i64 n] ∧ w' = w5) ?_ ?_
    · refine xixstr 0 hd0 rfl (by rw [hnum]; rfl) ?_
      by_cases h : n < 0
      · obtain ⟨e1, -⟩ := hn1 h
        subst e1
        refine xifT rfl ?_
        exact xi (r := n) (by rw [wrapI (by omega)]; omega) ⟨rfl, rfl⟩
      · obtain ⟨e1, e2, -⟩ := hn2 h
        refine xifF (by simp; omega) ⟨?_, rfl⟩
        show [Value.int .i64 ((n.natAbs : Nat) : Int)] = _
        rw [show ((n.natAbs : Nat) : Int) = n by omega]
    rintro vs g w6 ⟨rfl, rfl⟩
    exact ⟨rfl, he⟩
theorem c_Atoi {n : Int} (hn : -999999999 ≤ n ∧ n ≤ 999999999) : Ret P n_strconv_Atoi [str (numK n)] w fun r w' => r = .tuple #[.int .i64 n, .nilIface] ∧ Ext No w w' := by
  refine W_strconv_Atoi ?_
  refine (c_iAtoi hn).mono ?_
  rintro r w1 ⟨rfl, he⟩
  refine xifcNil ?_
  exact xifF rfl ⟨rfl, he⟩
theorem c_number {n : Int} (hn : -999999999 ≤ n ∧ n ≤ 999999999) : Ret P n_script_number [str (numK n)] w fun r w' => r = .tuple #[.int .i64 n, .int .i64 0] ∧ Ext No w w' := by
  have hl := decK_le (d := 8) (n := n.natAbs) (by omega)
  refine W_script_number ?_
  have cut : Ret P n_strings_CutPrefix [str (numK n), str [45]] w fun r w' => r = .tuple #[str (decK n.natAbs), .bool (decide (n < 0))] ∧ w' = w := by
    by_cases h : n < 0
    · have e : numK n = [45] ++ decK n.natAbs := by rw [numK_eq, if_pos h]
      rw [e, decide_eq_true h]
      exact c_CutPrefix1 (a := [45]) (by simp; omega)
    · have e : numK n = decK n.natAbs := by rw [numK_eq, if_neg h]; rfl
      rw [e, decide_eq_false h]
      refine c_CutPrefix0 fun hp => ?_
      obtain ⟨t, ht⟩ := hp
      have := decK_dig n.natAbs 45 (by rw [← ht]; simp)
      exact absurd this.1 (by decide)
  refine cut.mono ?_
  rintro r w1 ⟨rfl, rfl⟩
  refine xj (fun vs w' => vs = [.bool false] ∧ Ext No w1 w') ?_ ?_
  · refine (c_digitsOnly _ (by omega)).mono ?_
    rintro r w2 ⟨rfl, he⟩
    refine xifF rfl ?_
    refine xifD (fun h => ?_) fun h => ⟨rfl, he⟩
    refine xseq ⟨?_, he⟩
    rw [decide_eq_false]
    obtain ⟨c, r, h1, h2⟩ := decK_lead (n := n.natAbs) (by omega)
    rw [h1]
    intro e
    cases e
    exact h2 rfl
  rintro vs g w2 ⟨rfl, he⟩
  refine xifF rfl ?_
  refine xlens ?_
  refine xifF (decide_eq_false (by omega)) ?_
  refine (c_Atoi hn).mono ?_
  rintro r w3 ⟨rfl, he3⟩
  exact ⟨rfl, he.transN he3⟩
/-! ### keys -/
set_option maxRecDepth 100000 in
theorem c_kParse (hk : k.length ≤ 65535) : Ret P n_keys_Parse [str (hexK k)] w fun r w' => ∃ v, r = .tuple #[v, .int .i64 0] ∧ Bs w' v k ∧ Ext No w w' := by
  refine W_keys_Parse ?_
  refine xlens ?_
  rw [hexK_length]
  refine xifF (decide_eq_false (by omega)) ?_
  refine xlens ?_
  rw [hexK_length]
  refine xrem (b := 2) (by omega) ?_
  refine xifF (by rw [show 2 * k.length % 2 = 0 by omega]; rfl) ?_
  refine xloop (fun m vs w' => ∃ (i : Nat) (x y z v : Value), vs = [str (hexK (k.drop i)), x, y, z, v] ∧ i ≤ k.length ∧ m = k.length - i ∧ Own w' w.heap.size T_uint8 1 v i ((k.take i).map bv) ∧ Ext No w w') k.length ⟨0, _, _, _, _, rfl, by omega, rfl, Own.nil _ _ _ _, Ext.refl _ _⟩ ?_
  rintro m vs g w1 ⟨i, x, y, z, v, rfl, hi, rfl, ho, he⟩
  unfold S_keys_Parse_l1
  show xSNe (str (hexK (k.drop i))) (str []) _
  refine xsne ?_
  by_cases hil : i < k.length
  · have hg := hexK_get hil
    have hc := u8_lt k[i]
    refine xifT (by rw [hg]; simp) ?_
    rw [hg]
    refine xixstr 0 (hexD (k[i].toNat / 16)) rfl rfl ?_
    refine xixstr 1 (hexD (k[i].toNat % 16)) rfl rfl ?_
    refine (c_SIndexByte (s := hexS) (c := hexD (k[i].toNat / 16))).mono ?_
    rintro r w2 ⟨rfl, rfl⟩
    rw [hexD_ix ⟨k[i].toNat / 16, by omega⟩]
    refine xi (r := ((k[i].toNat / 16 * 16 : Nat) : Int)) (by show IntKind.i64.wrap (((k[i].toNat / 16 : Nat) : Int) * 2 ^ min 4 64) = _; rw [show (2 : Int) ^ min 4 64 = 16 from rfl, wrapI (by omega)]; omega) ?_
    refine (c_SIndexByte (s := hexS) (c := hexD (k[i].toNat % 16))).mono ?_
    rintro r w3 ⟨rfl, rfl⟩
    rw [hexD_ix ⟨k[i].toNat % 16, by omega⟩]
    refine xi (r := ((k[i].toNat : Nat) : Int)) (hex_or ⟨k[i].toNat, hc⟩) ?_
    refine xifF (decide_eq_false (by omega)) ?_
    refine xi (r := ((k[i].toNat : Nat) : Int)) (wrapU8 (by omega)) ?_
    have he3 := he.drew
    show XNew w1.drew [bv k[i]] T_uint8 _
    refine xnew fun a w4 ha hbl hz4 he4 => ?_
    have hE4 := he3.transN he4
    have hs4 := hE4.size
    have hsl : Sl w4 (tyQ T_uint8) (.slice (some ⟨a, 0, none⟩) 1 1) 1 1 [bv k[i]] := by
      have := hbl.sl (o := 0) (n := 1) (cap := 1) (by simp) (Nat.le_refl _)
      simpa using this
    refine app_own ei_u8 ((ho.drew).extN he4) (by omega) hsl (by intro u hu; simp at hu; subst hu; rfl) (by omega) (by omega) fun v' w5 ho5 hE5 _ hb5 => ?_
    refine xcutstrL 2 rfl (by simp) ?_
    refine xnext (k.length - (i + 1)) (by omega) ⟨i + 1, .int .i64 (k[i].toNat : Nat), y, z, v', rfl, by omega, rfl, ?_, hE4.own ((ho.drew).extN he4) (Nat.le_refl _) hE5⟩
    rw [← List.take_append_getElem hil, List.map_append]
    exact ho5
  · have : i = k.length := by omega
    subst this
    rw [List.take_length] at ho
    have e : hexK (k.drop k.length) = [] := by rw [List.drop_length]; rfl
    refine xifF (by rw [e]; rfl) ?_
    exact ⟨v, rfl, Bs.of ho.sl, he⟩
theorem c_key (hk : k.length ≤ 65535) : Ret P n_script_key [str (keyW k)] w fun r w' => ∃ v, r = .tuple #[v, .int .i64 0] ∧ Bs w' v k ∧ Ext No w w' := by
  refine W_script_key ?_
  unfold keyW
  refine xseq ?_
  by_cases h : k = []
  · subst h
    rw [if_pos rfl]
    exact xifT rfl ⟨_, rfl, Bs.nil _, Ext.refl _ _⟩
  · rw [if_neg h]
    have hl := hexK_length k
    have h0 : 0 < k.length := List.length_pos_iff.2 h
    refine xifF (decide_eq_false fun e => by rw [e] at hl; simp at hl; omega) ?_
    refine xseq ?_
    refine xifF (decide_eq_false fun e => by rw [e] at hl; simp at hl; omega) ?_
    refine (c_kParse hk).mono ?_
    rintro r w1 ⟨v, rfl, hv, he⟩
    exact ⟨v, rfl, hv, he⟩
theorem c_way (b : Bool) : Ret P n_script_way [str (if b then [100, 111, 119, 110] else [117, 112])] w fun r w' => r = .tuple #[.bool b, .int .i64 0] ∧ w' = w := by
  refine W_script_way ?_
  cases b
  · refine xjd ?_
    refine xsne ?_
    refine xifF rfl ?_
    intro g
    refine xifF rfl ?_
    refine xseq ⟨rfl, rfl⟩
  · refine xjd ?_
    refine xsne ?_
    refine xifT rfl ?_
    refine xsne ?_
    intro g
    refine xifF rfl ?_
    refine xseq ⟨rfl, rfl⟩
end
end Go.Proofs.YtbfnagdpanfphaaGreatDoor
end
