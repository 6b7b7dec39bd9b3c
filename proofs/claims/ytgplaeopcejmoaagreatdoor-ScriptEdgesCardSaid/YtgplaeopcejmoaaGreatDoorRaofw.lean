/- The walk of the document's number. The walk of the document's OpOf. The walk of the document's ActOf: plain facts. The walk of the document's ActOf. -/
import Derived.Test.YtgplaeopcejmoaaGreatDoorRound
import Derived.Test.YtgplaeopcejmoaaGreatDoorRoptext
import Derived.Test.YtgplaeopcejmoaaGreatDoorRacttext
import Derived.Test.YtgplaeopcejmoaaGreatDoorActof
import Derived.Test.YtgplaeopcejmoaaGreatDoorDeed
import Derived.Deep.RegionHeld3
namespace Go.Proofs.YtgplaeopcejmoaaGreatDoor
open Go.RowKit

def valZ (acc : Int) (l : Bs) : Int := l.foldl (fun a c => a * 10 + (c.toNat : Int) - 48) acc
theorem valZ_snoc (acc : Int) (l : Bs) (c : UInt8) : valZ acc (l ++ [c]) = valZ acc l * 10 + (c.toNat : Int) - 48 := by
  unfold valZ; rw [List.foldl_append]; rfl
theorem valZ_digits : ∀ (l : Bs) (acc : Nat), (∀ c ∈ l, digB c) → valZ (acc : Int) l = (valD acc l : Int)
  | [], acc, _ => rfl
  | c :: r, acc, h => by
    have h1 : 48 ≤ c.toNat ∧ c.toNat ≤ 57 := h c (by simp)
    have ih := valZ_digits r (acc * 10 + (c.toNat - 48)) (fun x hx => h x (by simp [hx]))
    unfold valZ valD at ih ⊢
    rw [List.foldl_cons, List.foldl_cons, ← ih]
    congr 1
    omega
/-- does a text begin with '-' -/
def minusB (l : Bs) : Bool := l.head? == some 45
/-- the number that a text's first k bytes spell -/
def numZ (l : Bs) (k : Nat) : Int := valZ 0 ((l.take k).drop (if minusB l then 1 else 0))
/-- what is known of a number that is read -/
def numR (x : ByteArray) (v : Nat) : Prop := v < 18446744073709551616 ∧ (∀ n : Nat, n < 18446744073709551616 → x = dec n → v = n) ∧ (∀ l : Int, -9223372036854775808 ≤ l ∧ l ≤ 9223372036854775807 → x = ito l → IntKind.i64.wrap (v : Int) = l)
theorem numZ_next {l : Bs} {k : Nat} {c : UInt8} (h : l[k]? = some c) (hm : minusB l = true → 0 < k) : numZ l (k + 1) = numZ l k * 10 + (c.toNat : Int) - 48 := by
  obtain ⟨hl, h⟩ := List.getElem?_eq_some_iff.1 h
  unfold numZ
  rw [List.take_succ_eq_append_getElem hl, h]
  cases hb : minusB l with
  | false => simp only [Bool.false_eq_true, if_false, List.drop_zero]; exact valZ_snoc _ _ _
  | true =>
    have := hm hb
    simp only [if_true]
    rw [List.drop_append_of_le_length (by rw [List.length_take]; omega)]
    exact valZ_snoc _ _ _
theorem numZ_first {l : Bs} (h : minusB l = true) : numZ l 1 = 0 := by
  unfold numZ
  rw [if_pos h]
  cases l with
  | nil => rfl
  | cons a r => rfl
theorem u64_step {v f c : Int} (hv : v = f % 18446744073709551616) : IntKind.u64.wrap (IntKind.u64.wrap (IntKind.u64.wrap (v * 10) + IntKind.u64.wrap c) - 48) = (f * 10 + c - 48) % 18446744073709551616 := by
  have e : ∀ n, IntKind.u64.wrap n = n % 18446744073709551616 := fun n => by unfold IntKind.wrap IntKind.bits IntKind.signed; simp
  rw [e, e, e, e, hv]
  omega
theorem dec_minus (n : Nat) : minusB (Lib.decDigits n) = false := by
  unfold minusB
  cases h : Lib.decDigits n with
  | nil => rfl
  | cons c r =>
    have := dec_digits n c (by rw [h]; simp)
    unfold digB at this
    simp only [List.head?_cons]
    have hne : c ≠ 45 := by intro e; subst e; revert this; decide
    simpa using hne
theorem bs_dec (n : Nat) : bs (dec n) = Lib.decDigits n := by simp
theorem bs_ito (n : Int) : bs (ito n) = Lib.itoa n := by simp
theorem numZ_dec (n k : Nat) (h : (Lib.decDigits n).length ≤ k) : numZ (Lib.decDigits n) k = n := by
  unfold numZ
  rw [dec_minus, List.take_of_length_le h]
  simp only [Bool.false_eq_true, if_false, List.drop_zero]
  have := valZ_digits (Lib.decDigits n) 0 (dec_digits n)
  rw [dec_val] at this
  exact this
theorem numR_end {x : ByteArray} {k : Nat} {v : Nat} (hk : k = x.size ∨ k = 20) (hv : v < 18446744073709551616) (hm : minusB (bs x) = false) (he : (v : Int) = numZ (bs x) k % 18446744073709551616) : numR x v := by
  have key : ∀ n : Nat, n < 18446744073709551616 → bs x = Lib.decDigits n → v = n := fun n hn hx => by
    have hs : (dec n).size ≤ 20 := dec_size hn
    have hlen : (Lib.decDigits n).length = (dec n).size := by rw [← bs_dec, bs_length]
    have hxs : x.size = (dec n).size := by rw [← bs_length, hx, hlen]
    rw [hx, numZ_dec n k (by rcases hk with e | e <;> omega)] at he
    omega
  refine ⟨hv, fun n hn hx => key n hn (by rw [hx, bs_dec]), fun l hl hx => ?_⟩
  have hb : bs x = Lib.itoa l := by rw [hx, bs_ito]
  unfold Lib.itoa at hb
  split at hb
  · rw [hb] at hm; simp [minusB] at hm
  · have := key l.toNat (by omega) hb
    rw [IntKind.wrap_i64]; omega
theorem nDigits_ge {u k : Nat} (h : k < Lib.nDigits u) : 10 ^ k ≤ u ∨ k = 0 := by
  induction k generalizing u with
  | zero => exact .inr rfl
  | succ k ih =>
    by_cases hu : u < 10
    · rw [Lib.nDigits_small hu] at h; omega
    · rw [Lib.nDigits_big hu] at h
      rcases ih (u := u / 10) (by omega) with h1 | h1
      · left; rw [Nat.pow_succ]; omega
      · left; subst h1; omega
theorem numR_neg {x : ByteArray} {k : Nat} {v : Nat} (hk : k = x.size ∨ k = 20) (hm : minusB (bs x) = true) (u : Int) (hu : u = numZ (bs x) k % 18446744073709551616) (hv : (v : Int) = IntKind.u64.wrap (-u)) : numR x v := by
  have e : ∀ n, IntKind.u64.wrap n = n % 18446744073709551616 := fun n => by unfold IntKind.wrap IntKind.bits IntKind.signed; simp
  rw [e] at hv
  refine ⟨by omega, fun n _ hx => ?_, fun l hl hx => ?_⟩
  · rw [hx, bs_dec, dec_minus] at hm; cases hm
  · have hb : bs x = Lib.itoa l := by rw [hx, bs_ito]
    have hs : (ito l).size ≤ 21 := ito_size hl.1 hl.2
    unfold Lib.itoa at hb
    split at hb
    · rename_i hneg
      have hlen : x.size = (Lib.decDigits l.natAbs).length + 1 := by rw [← bs_length, hb, List.length_cons]
      have hd : (Lib.decDigits l.natAbs).length ≤ 19 := by
        have h1 : Lib.nDigits l.natAbs ≤ 19 := by
          have := Lib.lt_pow_nDigits l.natAbs
          rw [← Lib.decDigits_length] at this ⊢
          rcases Nat.lt_or_ge 19 (Lib.decDigits l.natAbs).length with h | h
          · exfalso
            have hp := Lib.decDigits_length l.natAbs
            rw [hp] at h
            have hge := nDigits_ge h
            omega
          · exact h
        rw [Lib.decDigits_length]; exact h1
      have hz : numZ (bs x) k = l.natAbs := by
        rw [hb]
        unfold numZ
        have hmm : minusB (45 :: Lib.decDigits l.natAbs) = true := rfl
        rw [if_pos hmm, List.take_of_length_le (by rw [List.length_cons]; rcases hk with e | e <;> omega), List.drop_one, List.tail_cons]
        have := valZ_digits (Lib.decDigits l.natAbs) 0 (dec_digits _)
        rw [dec_val] at this
        exact this
      rw [hz] at hu
      rw [IntKind.wrap_i64]; omega
    · rw [hb, dec_minus] at hm; cases hm

theorem numZ_zero (l : Bs) : numZ l 0 = 0 := by
  unfold numZ; simp [valZ]
theorem minus_head {s : ByteArray} {c : UInt8} (h : (bs s)[0]? = some c) : minusB (bs s) = ((c.toNat : Int) == 45) := by
  unfold minusB
  rw [List.head?_eq_getElem?, h, Bool.eq_iff_iff]
  simp only [beq_iff_eq, Option.some.injEq]
  constructor
  · intro e; subst e; rfl
  · intro e
    have : c.toNat = (45 : UInt8).toNat := by have : (45 : UInt8).toNat = 45 := rfl; omega
    exact UInt8.toNat_inj.1 this

set_option maxRecDepth 100000 in
set_option maxHeartbeats 2000000 in
theorem rnum_any (s : ByteArray) (hs : s.size ≤ 1000000) (w : World) : Calls Tryz.prog 72 #[.string s] w fun e w' => (∃ v : Nat, e = .returned (.int .u64 (v : Int)) ∧ numR s v) ∧ w = w' := by
  by_cases h0 : s.size = 0
  · have hb : bs s = [] := List.eq_nil_of_length_eq_zero (by rw [bs_length, h0])
    have g0 : ¬ 0 < (s.size : Int) := by omega
    have hr : numR s 0 := numR_end (k := 0) (.inl h0.symm) (by decide) (by rw [hb]; rfl) (by rw [numZ_zero]; rfl)
    have HR := Lib.hid hr
    clear h0 hb hr
    go_enter Tryz.func72, Tryz.ntmps72
    go_wp2_with fail
    go_loop [3, 5] (fun x i => x = .int .u64 0 ∧ i = .int .i64 0) (fun _ _ => 0)
    case atStart => exact ⟨rfl, rfl⟩
    case round =>
      obtain ⟨rfl, rfl⟩ := hrel
      go_wp2_with fail
      go_ret
      exact ⟨⟨0, rfl, HR.out⟩, rfl⟩
  · have g0 : 0 < (s.size : Int) := by omega
    obtain ⟨c0, hc0⟩ : ∃ c : UInt8, s[0]'(by omega) = c := ⟨_, rfl⟩
    have hci0 : ∀ h, s[0]'h = c0 := fun _ => hc0
    have hg0 : (bs s)[0]? = some c0 := by rw [bs_get (by omega), hc0]
    have hmb := minus_head hg0
    clear hc0 hg0
    cases hb : ((c0.toNat : Int) == 45)
    · rw [hb] at hmb
      have HM := Lib.hid hmb
      clear hmb
      go_enter Tryz.func72, Tryz.ntmps72
      go_wp2_with fail
      go_loop [3, 5] (fun x i => ∃ (k : Nat) (v : Int), k ≤ s.size ∧ k ≤ 20 ∧ i = .int .i64 k ∧ x = .int .u64 v ∧ Hid (v = numZ (bs s) k % 18446744073709551616)) (fun _ i => 20 - (intOf i).toNat)
      case atStart => exact ⟨0, 0, Nat.zero_le _, by omega, rfl, rfl, Lib.hid (by rw [numZ_zero]; rfl)⟩
      case round =>
        obtain ⟨k, v, hk, hk20, rfl, rfl, HV⟩ := hrel
        clear hci0
        by_cases hlt : k < s.size
        · by_cases hl20 : k < 20
          · obtain ⟨c, hc⟩ : ∃ c : UInt8, s[k] = c := ⟨_, rfl⟩
            have hci : ∀ h, s[k]'h = c := fun _ => hc
            have hg : (bs s)[k]? = some c := by rw [bs_get hlt, hc]
            clear hc
            have hnx := numZ_next hg (fun e => by rw [HM.out] at e; cases e)
            have hst : IntKind.u64.wrap (IntKind.u64.wrap (IntKind.u64.wrap (v * 10) + IntKind.u64.wrap (c.toNat : Int)) - 48) = numZ (bs s) (k + 1) % 18446744073709551616 := by rw [hnx]; exact u64_step HV.out
            have HST := Lib.hid hst
            clear hg hnx hst
            by_cases hk0 : 0 < k
            · go_wp2_with fail
              go_round
              case rel => exact ⟨k + 1, _, by omega, by omega, by go_num, rfl, HST⟩
              case measure => simp [intOf]; omega
            · obtain rfl : k = 0 := by omega
              go_wp2_with fail
              go_round
              case rel => exact ⟨0 + 1, _, by omega, by omega, by go_num, rfl, HST⟩
              case measure => simp [intOf]
          · obtain rfl : k = 20 := by omega
            have hv0 : 0 ≤ v ∧ v < 18446744073709551616 := by have := HV.out; omega
            obtain ⟨u, rfl⟩ : ∃ u : Nat, v = u := ⟨v.toNat, by omega⟩
            have HR := Lib.hid (numR_end (x := s) (k := 20) (v := u) (.inr rfl) (by omega) HM.out HV.out)
            clear hv0
            go_wp2_with fail
            go_ret
            exact ⟨⟨u, rfl, HR.out⟩, rfl⟩
        · obtain rfl : k = s.size := by omega
          have hv0 : 0 ≤ v ∧ v < 18446744073709551616 := by have := HV.out; omega
          obtain ⟨u, rfl⟩ : ∃ u : Nat, v = u := ⟨v.toNat, by omega⟩
          have HR := Lib.hid (numR_end (x := s) (k := s.size) (v := u) (.inl rfl) (by omega) HM.out HV.out)
          clear hv0
          go_wp2_with fail
          go_ret
          exact ⟨⟨u, rfl, HR.out⟩, rfl⟩
    · rw [hb] at hmb
      have HM := Lib.hid hmb
      clear hmb
      go_enter Tryz.func72, Tryz.ntmps72
      go_wp2_with fail
      go_loop [3, 5] (fun x i => ∃ (k : Nat) (v : Int), k ≤ s.size ∧ k ≤ 20 ∧ i = .int .i64 k ∧ x = .int .u64 v ∧ Hid (v = numZ (bs s) k % 18446744073709551616)) (fun _ i => 20 - (intOf i).toNat)
      case atStart => exact ⟨0, 0, Nat.zero_le _, by omega, rfl, rfl, Lib.hid (by rw [numZ_zero]; rfl)⟩
      case round =>
        obtain ⟨k, v, hk, hk20, rfl, rfl, HV⟩ := hrel
        clear hci0
        by_cases hlt : k < s.size
        · by_cases hl20 : k < 20
          · by_cases hk0 : 0 < k
            · obtain ⟨c, hc⟩ : ∃ c : UInt8, s[k] = c := ⟨_, rfl⟩
              have hci : ∀ h, s[k]'h = c := fun _ => hc
              have hg : (bs s)[k]? = some c := by rw [bs_get hlt, hc]
              clear hc
              have hnx := numZ_next hg (fun _ => hk0)
              have hst : IntKind.u64.wrap (IntKind.u64.wrap (IntKind.u64.wrap (v * 10) + IntKind.u64.wrap (c.toNat : Int)) - 48) = numZ (bs s) (k + 1) % 18446744073709551616 := by rw [hnx]; exact u64_step HV.out
              have HST := Lib.hid hst
              clear hg hnx hst
              go_wp2_with fail
              go_round
              case rel => exact ⟨k + 1, _, by omega, by omega, by go_num, rfl, HST⟩
              case measure => simp [intOf]; omega
            · obtain rfl : k = 0 := by omega
              have hz : v = numZ (bs s) 1 % 18446744073709551616 := by rw [numZ_first HM.out, HV.out, numZ_zero]
              have HZ := Lib.hid hz
              clear hz
              go_wp2_with fail
              go_round
              case rel => exact ⟨0 + 1, _, by omega, by omega, by go_num, rfl, HZ⟩
              case measure => simp [intOf]
          · obtain rfl : k = 20 := by omega
            have hw : ∀ n, IntKind.u64.wrap n = n % 18446744073709551616 := fun n => by unfold IntKind.wrap IntKind.bits IntKind.signed; simp
            have hv0 : 0 ≤ IntKind.u64.wrap (-v) := by rw [hw]; omega
            obtain ⟨u, hu⟩ : ∃ u : Nat, IntKind.u64.wrap (-v) = (u : Int) := ⟨(IntKind.u64.wrap (-v)).toNat, by omega⟩
            have HR := Lib.hid (numR_neg (x := s) (k := 20) (v := u) (.inr rfl) HM.out v HV.out hu.symm)
            clear hv0 hw
            go_wp2_with fail
            go_ret
            exact ⟨⟨u, rfl, HR.out⟩, rfl⟩
        · obtain rfl : k = s.size := by omega
          have hw : ∀ n, IntKind.u64.wrap n = n % 18446744073709551616 := fun n => by unfold IntKind.wrap IntKind.bits IntKind.signed; simp
          have hv0 : 0 ≤ IntKind.u64.wrap (-v) := by rw [hw]; omega
          obtain ⟨u, hu⟩ : ∃ u : Nat, IntKind.u64.wrap (-v) = (u : Int) := ⟨(IntKind.u64.wrap (-v)).toNat, by omega⟩
          have HR := Lib.hid (numR_neg (x := s) (k := s.size) (v := u) (.inl rfl) HM.out v HV.out hu.symm)
          clear hv0 hw
          go_wp2_with fail
          go_ret
          exact ⟨⟨u, rfl, HR.out⟩, rfl⟩
end Go.Proofs.YtgplaeopcejmoaaGreatDoor
namespace Go.Proofs.YtgplaeopcejmoaaGreatDoor
open Go.RowKit Go.Shelf

/-- one letter's field of o, written into q -/
def cpF (o : Opr) (q : Opr) (c : UInt8) : Opr :=
  if c = 110 then { q with n := o.n } else if c = 115 then { q with lsn := o.lsn } else if c = 108 then { q with level := o.level } else if c = 107 then { q with key := o.key } else if c = 116 then { q with til := o.til } else { q with value := o.value }
def partO (o : Opr) (l : Bs) : Opr := l.foldl (cpF o) { opZero with kind := o.kind }
theorem partO_snoc (o : Opr) (l : Bs) (c : UInt8) : partO o (l ++ [c]) = cpF o (partO o l) c := by unfold partO; rw [List.foldl_append]; rfl
theorem hasF_parts {o : Opr} (h : mayOp o = true) (x : Fin 12) (hk : o.kind = 1 + (x.val : Int)) : (hasB (rnpPt x) 110 = false → o.n = 0) ∧ (hasB (rnpPt x) 115 = false → o.lsn = 0) ∧ (hasB (rnpPt x) 108 = false → o.level = 0) ∧ (hasB (rnpPt x) 107 = false → o.key = ⟨#[]⟩) ∧ (hasB (rnpPt x) 116 = false → o.til = ⟨#[]⟩) ∧ (hasB (rnpPt x) 118 = false → o.value = ⟨#[]⟩) := by
  obtain ⟨m, hm, hw⟩ := mayOp_mask h
  obtain ⟨m', hm', a1, a2, a4, a8, a16, a32⟩ := parts_mask x
  rw [hk, hm'] at hm
  obtain rfl : m' = m := Option.some.inj hm
  unfold mayW at hw
  simp only [Bool.and_eq_true, Bool.or_eq_true, beq_iff_eq, decide_eq_true_eq] at hw
  obtain ⟨⟨⟨⟨⟨⟨⟨⟨w1, w2⟩, w4⟩, w8⟩, w16⟩, w32⟩, _⟩, _⟩, _⟩ := hw
  refine ⟨fun e => ?_, fun e => ?_, fun e => ?_, fun e => ?_, fun e => ?_, fun e => ?_⟩
  · rw [a1, e] at w1; simpa using w1
  · rw [a2, e] at w2; simpa using w2
  · rw [a32, e] at w32; simpa using w32
  · rw [a4, e] at w4; exact text_empty (by simpa using w4)
  · rw [a8, e] at w8; exact text_empty (by simpa using w8)
  · rw [a16, e] at w16; exact text_empty (by simpa using w16)
/-- all letters' fields are the operation -/
theorem partO_all {o : Opr} (h : mayOp o = true) (x : Fin 12) (hk : o.kind = 1 + (x.val : Int)) : partO o (bs (rnpPt x)) = o := by
  obtain ⟨z1, z2, z3, z4, z5, z6⟩ := hasF_parts h x hk
  obtain ⟨k, n, key, til, value, level, lsn⟩ := o
  simp only at z1 z2 z3 z4 z5 z6
  match x with
  | ⟨0, _⟩ => rw [z1 rfl, z2 rfl, z3 rfl, z4 rfl, z5 rfl, z6 rfl]; rfl
  | ⟨1, _⟩ => rw [z2 rfl, z3 rfl, z5 rfl, z6 rfl]; rfl
  | ⟨2, _⟩ => rw [z2 rfl, z3 rfl, z6 rfl]; rfl
  | ⟨3, _⟩ => rw [z2 rfl, z3 rfl, z5 rfl]; rfl
  | ⟨4, _⟩ => rw [z2 rfl, z3 rfl, z5 rfl, z6 rfl]; rfl
  | ⟨5, _⟩ => rw [z2 rfl, z3 rfl, z4 rfl, z5 rfl, z6 rfl]; rfl
  | ⟨6, _⟩ => rw [z2 rfl, z4 rfl, z5 rfl, z6 rfl]; rfl
  | ⟨7, _⟩ => rw [z2 rfl, z4 rfl, z5 rfl, z6 rfl]; rfl
  | ⟨8, _⟩ => rw [z2 rfl, z3 rfl, z4 rfl, z5 rfl, z6 rfl]; rfl
  | ⟨9, _⟩ => rw [z1 rfl, z4 rfl, z5 rfl, z6 rfl]; rfl
  | ⟨10, _⟩ => rw [z1 rfl, z2 rfl, z3 rfl, z4 rfl, z5 rfl, z6 rfl]; rfl
  | ⟨11, _⟩ => rw [z1 rfl, z2 rfl, z3 rfl, z4 rfl, z5 rfl, z6 rfl]; rfl
/-- the words of a line that is an operation's text -/
theorem words_of {s : ByteArray} {o : Opr} (h : opOfT s = some o) (x : Fin 12) (hk : o.kind = 1 + (x.val : Int)) : splitT 32 s = nmAt x :: (bs (rnpPt x)).map (letW o) := by
  obtain ⟨h1, h2, _⟩ := opText_of h
  obtain ⟨m, hm, _⟩ := mayOp_mask h1
  rw [← h2, split_opText hm, opWords_opt, hk, opName_at]
  obtain ⟨m', hm', hw⟩ := parts_words o x
  rw [← hk, hm] at hm'
  obtain rfl : m = m' := Option.some.inj hm'
  rw [hw]
theorem opOfT_range {s : ByteArray} {o : Opr} (h : opOfT s = some o) : 1 ≤ o.kind ∧ o.kind ≤ 12 := by
  obtain ⟨h1, _, _⟩ := opText_of h
  obtain ⟨m, hm, _⟩ := mayOp_mask h1
  exact named_range hm
/-- what the document's OpOf hands back -/
def ropV (s : ByteArray) : Value := match opOfT s with
  | some o => .tuple #[opV o, .bool true]
  | none => .tuple #[opV opZero, .bool false]
theorem ropV_some {s : ByteArray} {o : Opr} (h : opOfT s = some o) : ropV s = .tuple #[opV o, .bool true] := by unfold ropV; rw [h]
theorem ropV_none {s : ByteArray} (h : opOfT s = none) : ropV s = .tuple #[opV opZero, .bool false] := by unfold ropV; rw [h]

/-- what stands while the document reads an operation -/
structure Rof (w W : World) (v : Value) (l : List ByteArray) : Prop where
  below : Below w.heap.size w W
  res : Blk W w.heap.size 34 (opCells opZero)
  row : OwnS W (w.heap.size + 1) v l
theorem Rof.next {w W W' : World} {v : Value} {l : List ByteArray} (h : Rof w W v l) (hb : Below W.heap.size W W') : Rof w W' v l :=
  ⟨h.below.trans (hb.mono h.below.size), h.res.below hb h.res.lt, h.row.below hb⟩
theorem Rof.alloc {w W : World} {v : Value} {l : List ByteArray} (h : Rof w W v l) (x : Obj) : Rof w (W.alloc x) v l := h.next ((Below.refl _ _).alloc (Nat.le_refl _) _)
theorem Rof.store {w W : World} {v : Value} {l : List ByteArray} {ob : Nat} {L : List Value} (h : Rof w W v l) (hB : Blk W ob 34 L) (ho : w.heap.size < ob) (j : Nat) (x : Value) : Rof w (W.setCell ⟨ob, j, none⟩ x) v l :=
  ⟨h.below.setCell (p := ⟨ob, j, none⟩) (Nat.le_of_lt ho) x, h.res.setOther (by omega) _ _, World.ownsRow.kept h.row (grown_setCell _ _ _ _) (.inr (Ne.symm (own_ne h.row hB (by intro cur e; injection e with _ e; exact absurd e (by decide)))))⟩
theorem Rof.cell {w W : World} {g n c : Nat} {l : List ByteArray} (h : Rof w W (.slice (some ⟨g, 0, none⟩) n c) l) {j : Nat} {x : ByteArray} (hx : l[j]? = some x) : W.cell? ⟨g, j, none⟩ = some (.string x) := by
  have := World.ownsRow.cells h.row (g := g) rfl j (.string x) (by simp [cellsS, hx])
  rw [Addr.add_lit] at this
  simpa using this
/-- the words so far, and what is read of them -/
def readSo (s : ByteArray) (x : Fin 12) (i : Nat) (q : Opr) : Prop := ∀ o, opOfT s = some o → o.kind = 1 + (x.val : Int) → q = partO o ((bs (rnpPt x)).take i)
theorem readSo_next {s : ByteArray} {x : Fin 12} {i : Nat} {q q' : Opr} {c : UInt8} (h : readSo s x i q) (hc : (bs (rnpPt x))[i]? = some c) (hq : ∀ o, opOfT s = some o → o.kind = 1 + (x.val : Int) → q' = cpF o q c) : readSo s x (i + 1) q' := by
  intro o ho hk
  obtain ⟨hl, hc⟩ := List.getElem?_eq_some_iff.1 hc
  rw [List.take_succ_eq_append_getElem hl, hc, partO_snoc, ← h o ho hk]
  exact hq o ho hk
/-- a word's letter -/
theorem word_letter {s y : ByteArray} {x : Fin 12} {i : Nat} {c : UInt8} (hc : (bs (rnpPt x))[i]? = some c) (hy : (splitT 32 s)[i + 1]? = some y) : ∀ o, opOfT s = some o → o.kind = 1 + (x.val : Int) → y = letW o c := by
  intro o ho hk
  rw [words_of ho x hk, List.getElem?_cons_succ, List.getElem?_map, hc] at hy
  exact (Option.some.inj hy).symm
theorem unword_of {x u : ByteArray} {b : Bool} {f : ByteArray} (h1 : b = true → unwordL (bs x) = some (bs u)) (h2 : b = false → unwordL (bs x) = none) (hx : x = wtx f) : u = f := by
  have e : unwordL (bs x) = some (bs f) := by rw [hx]; exact unwordL_word _
  cases b with
  | false => rw [h2 rfl] at e; cases e
  | true =>
    rw [h1 rfl] at e
    have := Option.some.inj e
    rw [← txt_bs u, this, txt_bs]
theorem wrap_range (v : Int) : -9223372036854775808 ≤ wrap64 v ∧ wrap64 v ≤ 9223372036854775807 := by
  unfold wrap64; omega
theorem cells7r {W : World} {b : Nat} {T : TypeId} {c0 c1 c2 c3 c4 c5 c6 : Value} (h : Blk W b T [c0, c1, c2, c3, c4, c5, c6]) : W.cell? ⟨b, 0, none⟩ = some c0 ∧ W.cell? ⟨b, 1, none⟩ = some c1 ∧ W.cell? ⟨b, 2, none⟩ = some c2 ∧ W.cell? ⟨b, 3, none⟩ = some c3 ∧ W.cell? ⟨b, 4, none⟩ = some c4 ∧ W.cell? ⟨b, 5, none⟩ = some c5 ∧ W.cell? ⟨b, 6, none⟩ = some c6 :=
  ⟨h.cell 0, h.cell 1, h.cell 2, h.cell 3, h.cell 4, h.cell 5, h.cell 6⟩
theorem mayOp_small {o : Opr} (h : mayOp o = true) : o.key.size ≤ 2000 ∧ o.til.size ≤ 2000 ∧ o.value.size ≤ 2000 := by
  obtain ⟨m, _, hw⟩ := mayOp_mask h
  unfold mayW at hw
  simp only [Bool.and_eq_true, decide_eq_true_eq] at hw
  obtain ⟨⟨⟨_, h1⟩, h2⟩, h3⟩ := hw
  exact ⟨by omega, by omega, by omega⟩
theorem split_small {s : ByteArray} (j : Nat) (x : ByteArray) (h : (splitT 32 s)[j]? = some x) : x.size ≤ s.size := by
  have hl := lineS_cuts s
  unfold lineS at hl
  have hl' := congrArg Prod.fst hl
  simp only at hl'
  rw [← hl'] at h
  exact splitB_size _ _ _ _ _ (List.mem_of_getElem? h)
theorem split_len (s : ByteArray) : (splitT 32 s).length ≤ s.size + 1 := by
  unfold splitT
  rw [List.length_map, ← bs_length]
  exact cutsL_len _ _

set_option maxRecDepth 100000 in
set_option maxHeartbeats 8000000 in
theorem refopof_any (s : ByteArray) (hs : s.size ≤ 90000) (w : World) (henv : Env w) :
    Calls Tryz.prog 30 #[.string s] w fun e w' => e = .returned (ropV s) ∧ Below w.heap.size w w' := by
  have hR0 := Blk.new w 34 (opCells opZero)
  have hb0 : Below w.heap.size w (w.alloc (.cells (opCells opZero).toArray 34)) := (Below.refl _ _).alloc (Nat.le_refl _) _
  obtain ⟨h, r, hhr⟩ : ∃ h r, splitT 32 s = h :: r := by
    cases e : splitT 32 s with
    | nil =>
      unfold splitT at e
      exact absurd (List.map_eq_nil_iff.1 e) (cutsL_ne _ _)
    | cons a r => exact ⟨a, r, rfl⟩
  have hrl : r.length ≤ 90000 := by have := split_len s; rw [hhr, List.length_cons] at this; omega
  have hrl0 : (0 : Int) < ((r.length + 1 : Nat) : Int) := by omega
  have HH := Lib.hid hhr
  have HR0 := Lib.hid hR0
  clear hhr hR0
  have e1 : (⟨#[32]⟩ : ByteArray).size = 1 := rfl
  go_enter Tryz.func30, Tryz.ntmps30
  go_wp2_with (go_at_call 24; refine (split_any s 32 hs _).mono ?_; rintro e w1 ⟨⟨v, rfl, ho⟩, hb1⟩
               rw [HH.out] at ho
               obtain ⟨g, c, rfl, hg1, hg2⟩ := ho.form (by simp)
               have hX : Hid (Rof w w1 (.slice (some ⟨g, 0, none⟩) (r.length + 1) c) (h :: r)) := Lib.hid ⟨hb0.trans (hb1.mono (by simp)), HR0.out.below hb1 HR0.out.lt, by rw [World.size_alloc] at ho; exact ho⟩
               clear ho hb1
               rw [List.length_cons])
  go_loopw [5] (fun i wr => ∃ j : Nat, j ≤ 12 ∧ i = .int .i64 (1 + (j : Int)) ∧ Hid (Rof w wr (.slice (some ⟨g, 0, none⟩) (r.length + 1) c) (h :: r)) ∧ Hid (∀ o, opOfT s = some o → (j : Int) < o.kind)) (fun i _ => 13 - (intOf i).toNat)
  case atStart => exact ⟨0, by omega, rfl, hX, Lib.hid (fun o ho => (opOfT_range ho).1)⟩
  case round =>
    obtain ⟨j, hj, rfl, HX, HK⟩ := hrel
    clear hX
    by_cases hlt : j < 12
    · obtain ⟨x, hx⟩ : ∃ x : Fin 12, x.val = j := ⟨⟨j, hlt⟩, rfl⟩
      have hxk : 1 + (x.val : Int) = 1 + (j : Int) := by rw [hx]
      have hN := rnp_in x
      rw [hxk] at hN
      have hN2 : ∀ W, Calls Tryz.prog 21 #[.int .i64 (1 + (j : Int))] W fun e w' => e = .returned (.tuple #[.string (nmAt x), .string (rnpPt x)]) ∧ Below W.heap.size W w' := fun W => hN W
      have hps := parts_size x
      have hK1 : ∀ o, opOfT s = some o → o.kind ≠ 1 + (x.val : Int) → ((j + 1 : Nat) : Int) < o.kind := fun o ho hne => by have := HK.out o ho; rw [hxk] at hne; omega
      have hW1 : ∀ o, opOfT s = some o → o.kind = 1 + (x.val : Int) → h = nmAt x ∧ r = (bs (rnpPt x)).map (letW o) := fun o ho hk => by
        have := words_of ho x hk
        rw [HH.out] at this
        injection this with a b
        exact ⟨a, b⟩
      have HN := Lib.hid hN2
      have HK1 := Lib.hid hK1
      have HW1 := Lib.hid hW1
      have hlet := parts_letters x
      have HL := Lib.hid hlet
      have hc0 : Hid (∀ W, Rof w W (.slice (some ⟨g, 0, none⟩) (r.length + 1) c) (h :: r) → W.cell? ⟨g, 0, none⟩ = some (.string h)) := Lib.hid fun W hW => hW.cell (j := 0) rfl
      clear hN hN2 hK1 hW1 hlet
      have hj0 : 1 + (j : Int) ≤ 12 := by omega
      obtain ⟨nm, hnm⟩ : ∃ nm, nmAt x = nm := ⟨_, rfl⟩
      obtain ⟨p, hp⟩ : ∃ p, rnpPt x = p := ⟨_, rfl⟩
      have HXV := Lib.hid hx
      have HXK := Lib.hid hxk
      rw [hp] at hps HL HN
      rw [hnm] at HN
      have HNM := Lib.hid hnm; have HPP := Lib.hid hp
      clear hnm hp hx hxk
      cases hq : (nm.toList == h.toList)
      · have hk2 : ∀ o, opOfT s = some o → ((j + 1 : Nat) : Int) < o.kind := fun o ho => HK1.out o ho (fun hk => by
          have := (HW1.out o ho hk).1
          rw [this, HNM.out] at hq
          simp at hq)
        have HK2 := Lib.hid hk2
        clear hk2
        go_wp2_with (go_at_call 21; refine (HN.out _).mono ?_; rintro e w2 ⟨rfl, hb2⟩
                     have HX2 : Hid (Rof w w2 (.slice (some ⟨g, 0, none⟩) (r.length + 1) c) (h :: r)) := Lib.hid (HX.out.next hb2)
                     have q0 := hc0.out _ HX2.out)
        go_roundw
        case rel => exact ⟨j + 1, by omega, by go_num, HX2, HK2⟩
        case measure => simp [intOf]; omega
      · cases hq2 : ((r.length : Int) == (p.size : Int))
        · have hk2 : ∀ o, opOfT s = some o → ((j + 1 : Nat) : Int) < o.kind := fun o ho => HK1.out o ho (fun hk => by
            have := (HW1.out o ho hk).2
            rw [this, List.length_map, HPP.out, bs_length] at hq2
            simp at hq2)
          have HK2 := Lib.hid hk2
          clear hk2
          have hq3 : ((r.length : Int) + 1 != 1 + (p.size : Int)) = true := by
            simp only [bne_iff_ne, ne_eq]
            intro e
            rw [beq_eq_false_iff_ne] at hq2
            omega
          go_wp2_with (go_at_call 21; refine (HN.out _).mono ?_; rintro e w2 ⟨rfl, hb2⟩
                       have HX2 : Hid (Rof w w2 (.slice (some ⟨g, 0, none⟩) (r.length + 1) c) (h :: r)) := Lib.hid (HX.out.next hb2)
                       have q0 := hc0.out _ HX2.out)
          go_roundw
          case rel => exact ⟨j + 1, by omega, by go_num, HX2, HK2⟩
          case measure => simp [intOf]; omega
        · have hrp : r.length = p.size := by have := eq_of_beq hq2; omega
          have HRP := Lib.hid hrp
          have hq3 : ((r.length : Int) + 1 != 1 + (p.size : Int)) = false := by
            simp only [bne_eq_false_iff_eq]
            omega
          clear hrp
          go_wp2_with (go_at_call 21; refine (HN.out _).mono ?_; rintro e w2 ⟨rfl, hb2⟩
                       have HX2 : Hid (Rof w w2 (.slice (some ⟨g, 0, none⟩) (r.length + 1) c) (h :: r)) := Lib.hid (HX.out.next hb2)
                       have q0 := hc0.out _ HX2.out)
          have HB2 : Hid (Blk (w2.alloc (.cells #[.int .i64 (1 + (j : Int)), .int .u64 0, .string ⟨#[]⟩, .string ⟨#[]⟩, .string ⟨#[]⟩, .int .i64 0, .int .u64 0] 34)) w2.heap.size 34 (opCells { opZero with kind := 1 + (j : Int) })) := Lib.hid (Blk.new w2 34 (opCells { opZero with kind := 1 + (j : Int) }))
          have HX3 := Lib.hid (HX2.out.alloc (.cells #[.int .i64 (1 + (j : Int)), .int .u64 0, .string ⟨#[]⟩, .string ⟨#[]⟩, .string ⟨#[]⟩, .int .i64 0, .int .u64 0] 34))
          have hob : w.heap.size < w2.heap.size := HX2.out.res.lt
          go_loopw [9] (fun i wr => ∃ (n : Nat) (q : Opr), n ≤ p.size ∧ i = .int .i64 n ∧ Hid (Rof w wr (.slice (some ⟨g, 0, none⟩) (r.length + 1) c) (h :: r)) ∧ Hid (Blk wr w2.heap.size 34 (opCells q)) ∧ Hid (OprOk q) ∧ Hid (q.kind = 1 + (j : Int)) ∧ Hid (readSo s x n q)) (fun i _ => p.size - (intOf i).toNat)
          case atStart => exact ⟨0, { opZero with kind := 1 + (j : Int) }, Nat.zero_le _, rfl, HX3, HB2, Lib.hid (opZero_ok _), Lib.hid rfl, Lib.hid (fun o _ hk => by rw [HXK.out] at hk; unfold partO; rw [hk]; rfl)⟩
          case round =>
            obtain ⟨n, q, hn, rfl, HXr, HBr, HOK, HKD, HSO⟩ := hrel
            clear HB2 HX3 q0 hq3 hq2
            by_cases hnl : n < p.size
            · obtain ⟨cc, hcc⟩ : ∃ cc : UInt8, p[n] = cc := ⟨_, rfl⟩
              have hci : ∀ h, p[n]'h = cc := fun _ => hcc
              have hg : (bs p)[n]? = some cc := by rw [bs_get hnl, hcc]
              clear hcc
              have hm := HL.out cc (List.mem_of_getElem? hg)
              obtain ⟨y, hy⟩ : ∃ y, r[n]? = some y := ⟨_, List.getElem?_eq_getElem (by rw [HRP.out]; exact hnl)⟩
              have hys : y.size ≤ 90000 := Nat.le_trans (split_small (s := s) (n + 1) y (by rw [HH.out]; exact hy)) hs
              have hwl := word_letter (s := s) (x := x) (by rw [HPP.out]; exact hg) (by rw [HH.out]; exact hy)
              have hnx := fun q' hq' => readSo_next (s := s) (x := x) (q' := q') HSO.out (by rw [HPP.out]; exact hg) hq'
              have fy : wr.cell? ⟨g, n + 1, none⟩ = some (.string y) := HXr.out.cell (j := n + 1) hy
              have i1 : (1 + (n : Int)).toNat = n + 1 := by omega
              have i2 : 0 ≤ 1 + (n : Int) := by omega
              have i3 : 1 + (n : Int) < ((r.length + 1 : Nat) : Int) := by rw [HRP.out]; omega
              have HWL := Lib.hid hwl; have HNX := Lib.hid hnx; have HY := Lib.hid hy
              clear hg hwl hnx hy
              rcases hm with rfl | rfl | rfl | rfl | rfl | rfl
              all_goals
                go_wp2_with (first
                  | (go_at_call 13; refine (refunword_any y (by omega) _).mono ?_; rintro e w3 ⟨⟨uw, ub, rfl, hu1, hu2⟩, hb3⟩
                     have HU := Lib.hid (fun (f : ByteArray) (hf : y = wtx f) => unword_of hu1 hu2 hf)
                     clear hu1 hu2
                     have HX4 := Lib.hid (HXr.out.next hb3)
                     have HB4 := Lib.hid (HBr.out.below hb3 HBr.out.lt)
                     have fy3 : w3.cell? ⟨g, n + 1, none⟩ = some (.string y) := HX4.out.cell (j := n + 1) HY.out
                     have cz1 : w3.cell? ⟨w2.heap.size, 1, none⟩ = some (.int .u64 (q.n : Int)) := HB4.out.cell 1
                     have cz2 : w3.cell? ⟨w2.heap.size, 2, none⟩ = some (.string q.key) := HB4.out.cell 2
                     have cz3 : w3.cell? ⟨w2.heap.size, 3, none⟩ = some (.string q.til) := HB4.out.cell 3
                     have cz4 : w3.cell? ⟨w2.heap.size, 4, none⟩ = some (.string q.value) := HB4.out.cell 4
                     have cz5 : w3.cell? ⟨w2.heap.size, 5, none⟩ = some (.int .i64 q.level) := HB4.out.cell 5
                     have cz6 : w3.cell? ⟨w2.heap.size, 6, none⟩ = some (.int .u64 (q.lsn : Int)) := HB4.out.cell 6
                     have fz1 := HB4.out.frozen 1; have fz2 := HB4.out.frozen 2; have fz3 := HB4.out.frozen 3; have fz4 := HB4.out.frozen 4; have fz5 := HB4.out.frozen 5; have fz6 := HB4.out.frozen 6)
                  | (go_at_call 72; refine (rnum_any y (by omega) _).mono ?_; rintro e w4 ⟨⟨v, rfl, hv⟩, rfl⟩
                     have HV := Lib.hid hv
                     clear hv))
              · go_roundw
                case rel => exact ⟨n + 1, { q with n := v }, by omega, by go_num, Lib.hid (HX4.out.store HB4.out hob 1 _), Lib.hid (HB4.out.setCell 1 _ (by simp [opCells])), Lib.hid ⟨HV.out.1, HOK.out.lsn, HOK.out.level⟩, HKD, Lib.hid (HNX.out _ fun o ho hk => by
                  have e : v = o.n := HV.out.2.1 o.n (opText_of ho).2.2.n (HWL.out o ho hk)
                  show { q with n := v } = { q with n := o.n }
                  rw [e])⟩
                case measure => simp [intOf]; omega
              · go_roundw
                case rel => exact ⟨n + 1, { q with lsn := v }, by omega, by go_num, Lib.hid (HX4.out.store HB4.out hob 6 _), Lib.hid (HB4.out.setCell 6 _ (by simp [opCells])), Lib.hid ⟨HOK.out.n, HV.out.1, HOK.out.level⟩, HKD, Lib.hid (HNX.out _ fun o ho hk => by
                  have e : v = o.lsn := HV.out.2.1 o.lsn (opText_of ho).2.2.lsn (HWL.out o ho hk)
                  show { q with lsn := v } = { q with lsn := o.lsn }
                  rw [e])⟩
                case measure => simp [intOf]; omega
              · go_roundw
                case rel => exact ⟨n + 1, { q with level := wrap64 (v : Int) }, by omega, by go_num, Lib.hid (HX4.out.store HB4.out hob 5 _), Lib.hid (HB4.out.setCell 5 _ (by simp [opCells])), Lib.hid ⟨HOK.out.n, HOK.out.lsn, wrap_range _⟩, HKD, Lib.hid (HNX.out _ fun o ho hk => by
                  have e : wrap64 (v : Int) = o.level := (IntWalk.i64_left _).symm.trans <| HV.out.2.2 o.level (opText_of ho).2.2.level (HWL.out o ho hk)
                  show { q with level := wrap64 (v : Int) } = { q with level := o.level }
                  rw [e])⟩
                case measure => simp [intOf]; omega
              · go_roundw
                case rel => exact ⟨n + 1, { q with key := uw }, by omega, by go_num, Lib.hid (HX4.out.store HB4.out hob 2 _), Lib.hid (HB4.out.setCell 2 _ (by simp [opCells])), Lib.hid ⟨HOK.out.n, HOK.out.lsn, HOK.out.level⟩, HKD, Lib.hid (HNX.out _ fun o ho hk => by
                  have e : uw = o.key := HU.out o.key (HWL.out o ho hk)
                  show { q with key := uw } = { q with key := o.key }
                  rw [e])⟩
                case measure => simp [intOf]; omega
              · go_roundw
                case rel => exact ⟨n + 1, { q with til := uw }, by omega, by go_num, Lib.hid (HX4.out.store HB4.out hob 3 _), Lib.hid (HB4.out.setCell 3 _ (by simp [opCells])), Lib.hid ⟨HOK.out.n, HOK.out.lsn, HOK.out.level⟩, HKD, Lib.hid (HNX.out _ fun o ho hk => by
                  have e : uw = o.til := HU.out o.til (HWL.out o ho hk)
                  show { q with til := uw } = { q with til := o.til }
                  rw [e])⟩
                case measure => simp [intOf]; omega
              · go_roundw
                case rel => exact ⟨n + 1, { q with value := uw }, by omega, by go_num, Lib.hid (HX4.out.store HB4.out hob 4 _), Lib.hid (HB4.out.setCell 4 _ (by simp [opCells])), Lib.hid ⟨HOK.out.n, HOK.out.lsn, HOK.out.level⟩, HKD, Lib.hid (HNX.out _ fun o ho hk => by
                  have e : uw = o.value := HU.out o.value (HWL.out o ho hk)
                  show { q with value := uw } = { q with value := o.value }
                  rw [e])⟩
                case measure => simp [intOf]; omega
            · obtain rfl : n = p.size := by omega
              have hso : ∀ o, opOfT s = some o → o.kind = 1 + (x.val : Int) → q = o := fun o ho hk => by
                have := HSO.out o ho hk
                rw [HPP.out, ← bs_length, List.take_length, ← HPP.out, partO_all (opText_of ho).1 x hk] at this
                exact this
              have qk : q.kind = 1 + (x.val : Int) := by rw [HKD.out, HXK.out]
              obtain ⟨f0, f1, f2, f3, f4, f5, f6⟩ := cells7r HBr.out
              have qm : ∀ W, Calls Tryz.prog 20 #[.agg #[.int .i64 q.kind, .int .u64 (q.n : Int), .string q.key, .string q.til, .string q.value, .int .i64 q.level, .int .u64 (q.lsn : Int)]] W fun e w' => e = .returned (.bool (mayOp q)) ∧ Below W.heap.size W w' := fun W => refmay_any q W
              have QM := Lib.hid qm
              have HSO2 := Lib.hid hso
              have QK := Lib.hid qk
              clear qm hso qk
              cases hmq : mayOp q
              · have hk2 : ∀ o, opOfT s = some o → ((j + 1 : Nat) : Int) < o.kind := fun o ho => HK1.out o ho (fun hk => by
                  have := HSO2.out o ho hk
                  rw [this, (opText_of ho).1] at hmq
                  cases hmq)
                have HK2 := Lib.hid hk2
                clear hk2
                go_wp2_with (go_at_call 20; (with_reducible refine (QM.out _).mono ?_); rintro e w5 ⟨rfl, hb5⟩; rw [hmq]; have HX6 := Lib.hid (HXr.out.next hb5))
                go_roundw
                case rel => exact ⟨j + 1, by omega, by go_num, HX6, HK2⟩
                case measure => simp [intOf]; omega
              · have hsm := mayOp_small hmq
                have qt : ∀ W, Env W → Calls Tryz.prog 23 #[.agg #[.int .i64 q.kind, .int .u64 (q.n : Int), .string q.key, .string q.til, .string q.value, .int .i64 q.level, .int .u64 (q.lsn : Int)]] W fun e w' => e = .returned (.string (opText q)) ∧ Below W.heap.size W w' := fun W hW => refoptext_in x q QK.out HOK.out hsm.1 hsm.2.1 hsm.2.2 W hW
                have QT := Lib.hid qt
                clear qt hsm
                cases hts : ((opText q).toList == s.toList)
                · have hk2 : ∀ o, opOfT s = some o → ((j + 1 : Nat) : Int) < o.kind := fun o ho => HK1.out o ho (fun hk => by
                    have := HSO2.out o ho hk
                    rw [this, (opText_of ho).2.1] at hts
                    simp at hts)
                  have HK2 := Lib.hid hk2
                  clear hk2
                  go_wp2_with (first
                    | (go_at_call 20; (with_reducible refine (QM.out _).mono ?_); rintro e w5 ⟨rfl, hb5⟩; rw [hmq]; have HX6 := Lib.hid (HXr.out.next hb5); obtain ⟨g0, g1, g2, g3, g4, g5, g6⟩ := cells7r (HBr.out.below hb5 HBr.out.lt))
                    | (go_at_call 23; (with_reducible refine (QT.out _ (henv.below HX6.out.below)).mono ?_); rintro e w6 ⟨rfl, hb6⟩; have HX7 := Lib.hid (HX6.out.next hb6)))
                  go_roundw
                  case rel => exact ⟨j + 1, by omega, by go_num, HX7, HK2⟩
                  case measure => simp [intOf]; omega
                · have hfound : opOfT s = some q := by
                    have e : opText q = s := by
                      have e2 := eq_of_beq hts
                      rw [toList_bs, toList_bs] at e2
                      rw [← txt_bs (opText q), e2, txt_bs]
                    rw [← e]; exact opOfT_text hmq HOK.out
                  have HF := Lib.hid hfound
                  clear hfound
                  go_wp2_with (first
                    | (go_at_call 20; (with_reducible refine (QM.out _).mono ?_); rintro e w5 ⟨rfl, hb5⟩; rw [hmq]; have HX6 := Lib.hid (HXr.out.next hb5); have HB6 := Lib.hid (HBr.out.below hb5 HBr.out.lt); obtain ⟨g0, g1, g2, g3, g4, g5, g6⟩ := cells7r HB6.out)
                    | (go_at_call 23; (with_reducible refine (QT.out _ (henv.below HX6.out.below)).mono ?_); rintro e w6 ⟨rfl, hb6⟩; have HX7 := Lib.hid (HX6.out.next hb6); obtain ⟨t0, t1, t2, t3, t4, t5, t6⟩ := cells7r (HB6.out.below hb6 HB6.out.lt); have hres := HX7.out.res)
                    | (refine wpList_store_row rfl 34 _ _ rfl w.heap.size (opCells q).toArray rfl rfl 34 _ hres infoOp rfl (opCells_one _) ?_))
                  refine bodyPost_ret (results_row_tmp rfl _ _ w.heap.size 34 (opCells q).toArray (0, 0) _ rfl (hres.set (opCells q)) Tryz.underlying34 rfl infoOp) rfl ?_
                  exact ⟨by rw [ropV_some HF.out]; rfl, below_setRow HX7.out.below (Nat.le_refl _) _⟩
    · obtain rfl : j = 12 := by omega
      have hnone : opOfT s = none := by
        cases e : opOfT s with
        | none => rfl
        | some o => have h1 := HK.out o e; have h2 := (opOfT_range e).2; omega
      have HNO := Lib.hid hnone
      have hres := HX.out.res
      clear hnone
      go_wp2_with (refine wpList_store_row rfl 34 _ _ rfl w.heap.size (opCells opZero).toArray rfl rfl 34 _ hres infoOp rfl (opCells_one _) ?_)
      refine bodyPost_ret (results_row_tmp rfl _ _ w.heap.size 34 (opCells opZero).toArray (0, 0) _ rfl (hres.set (opCells opZero)) Tryz.underlying34 rfl infoOp) rfl ?_
      exact ⟨by rw [ropV_none HNO.out]; rfl, below_setRow HX.out.below (Nat.le_refl _) _⟩
end Go.Proofs.YtgplaeopcejmoaaGreatDoor
namespace Go.Proofs.YtgplaeopcejmoaaGreatDoor
open Go.RowKit Go.Shelf

/-- a letter's words -/
def wA (a : Ar) (c : UInt8) : List ByteArray :=
  if c = 100 then [ito a.node] else if c = 115 then [ito a.source] else if c = 110 then [ito a.n] else if c = 111 then opWords a.op (opMask a) else a.picks.map ito
/-- one letter's field of a, written into q -/
def cpA (a : Ar) (q : Ar) (c : UInt8) : Ar :=
  if c = 100 then { q with node := a.node } else if c = 115 then { q with source := a.source } else if c = 110 then { q with n := a.n } else if c = 111 then { q with op := a.op } else { q with picks := a.picks }
def partA (a : Ar) (l : Bs) : Ar := l.foldl (cpA a) { arZero with kind := a.kind }
theorem partA_snoc (a : Ar) (l : Bs) (c : UInt8) : partA a (l ++ [c]) = cpA a (partA a l) c := by unfold partA; rw [List.foldl_append]; rfl
theorem mayAct_parts {a : Ar} (h : mayAct a = true) (x : Fin 12) (hk : a.kind = 1 + (x.val : Int)) : ∃ m, getI ofActL a.kind = some m ∧ maskA m (rapPt x) ∧ mayA m a = true := by
  obtain ⟨m, hm, hw⟩ := mayAct_mask h
  obtain ⟨m', hm', hp⟩ := partsA_mask x
  rw [hk, hm'] at hm
  obtain rfl : m' = m := Option.some.inj hm
  exact ⟨m', by rw [hk]; exact hm', hp, hw⟩
theorem partA_all {a : Ar} (h : mayAct a = true) (x : Fin 12) (hk : a.kind = 1 + (x.val : Int)) : partA a (bs (rapPt x)) = a := by
  obtain ⟨m, _, ⟨a1, a2, a4, a8, a16⟩, hw⟩ := mayAct_parts h x hk
  obtain ⟨w1, w2, w4, w8, w16, _, _⟩ := mayA_parts hw
  rw [a1] at w1; rw [a2] at w2; rw [a4] at w4; rw [a8] at w8; rw [a16] at w16
  obtain ⟨kd, node, source, nn, op, picks⟩ := a
  simp only at w1 w2 w4 w8 w16
  match x with
  | ⟨0, _⟩ => rw [w2 rfl, w4 rfl, w16 rfl]; rfl
  | ⟨1, _⟩ => rw [w1 rfl, w2 rfl, w8 rfl, w16 rfl]; rfl
  | ⟨2, _⟩ => rw [w1 rfl, w2 rfl, w8 rfl, w16 rfl]; rfl
  | ⟨3, _⟩ => rw [w1 rfl, w2 rfl, w8 rfl, w16 rfl]; rfl
  | ⟨4, _⟩ => rw [w2 rfl, w4 rfl, w8 rfl, w16 rfl]; rfl
  | ⟨5, _⟩ => rw [w2 rfl, w8 rfl, w16 rfl]; rfl
  | ⟨6, _⟩ => rw [w2 rfl, w4 rfl, w8 rfl]; rfl
  | ⟨7, _⟩ => rw [w2 rfl, w8 rfl]; rfl
  | ⟨8, _⟩ => rw [w4 rfl, w8 rfl, w16 rfl]; rfl
  | ⟨9, _⟩ => rw [w2 rfl, w4 rfl, w8 rfl, w16 rfl]; rfl
  | ⟨10, _⟩ => rw [w4 rfl, w8 rfl, w16 rfl]; rfl
  | ⟨11, _⟩ => rw [w2 rfl, w8 rfl, w16 rfl]; rfl
/-- the words of a line that is an act's text -/
theorem actWords_of {s : ByteArray} {a : Ar} (h : actOfT s = some a) (x : Fin 12) (hk : a.kind = 1 + (x.val : Int)) : splitT 32 s = rapNm x :: ((bs (rapPt x)).map (wA a)).flatten := by
  obtain ⟨h1, h2, _⟩ := actText_of h
  obtain ⟨m, hm, ⟨a1, a2, a4, a8, a16⟩, hw⟩ := mayAct_parts h1 x hk
  rw [← h2, split_actText hm hw]
  unfold actW
  clear a1 a2 a4 a8 a16 hw h1 h2 h
  rw [hk] at hm
  have e : actName a.kind = rapNm x := by
    rw [hk]
    unfold actName rapNm
    rw [if_pos (by omega), show (1 + (x.val : Int) - 1).toNat = x.val by omega]
  rw [e]
  congr 1
  have hwA : wA a = fun c => if c = 100 then [ito a.node] else if c = 115 then [ito a.source] else if c = 110 then [ito a.n] else if c = 111 then opWords a.op (opMask a) else a.picks.map ito := by funext c; unfold wA; rfl
  rw [hwA]
  clear hwA e
  generalize opWords a.op (opMask a) = t4
  generalize a.picks.map ito = t5
  generalize ito a.node = t1
  generalize ito a.source = t2
  generalize ito a.n = t3
  match x, hm with
  | ⟨0, _⟩, hm =>
    have hm' : some (9 : Int) = some m := hm
    cases hm'
    have hb : ∀ h, bs (rapPt ⟨0, h⟩) = [100, 111] := fun _ => rfl
    rw [hb]
    unfold optW optsW
    rw [ha9_1, ha9_2, ha9_4, ha9_8, ha9_16]
    simp
  | ⟨1, _⟩, hm =>
    have hm' : some (4 : Int) = some m := hm
    cases hm'
    rfl
  | ⟨2, _⟩, hm =>
    have hm' : some (4 : Int) = some m := hm
    cases hm'
    rfl
  | ⟨3, _⟩, hm =>
    have hm' : some (4 : Int) = some m := hm
    cases hm'
    rfl
  | ⟨4, _⟩, hm =>
    have hm' : some (1 : Int) = some m := hm
    cases hm'
    rfl
  | ⟨5, _⟩, hm =>
    have hm' : some (5 : Int) = some m := hm
    cases hm'
    rfl
  | ⟨6, _⟩, hm =>
    have hm' : some (17 : Int) = some m := hm
    cases hm'
    show [t1] ++ ([] ++ ([] ++ ([] ++ t5))) = [t1] ++ (t5 ++ []); simp
  | ⟨7, _⟩, hm =>
    have hm' : some (21 : Int) = some m := hm
    cases hm'
    show [t1] ++ ([] ++ ([t3] ++ ([] ++ t5))) = [t1] ++ ([t3] ++ (t5 ++ [])); simp
  | ⟨8, _⟩, hm =>
    have hm' : some (3 : Int) = some m := hm
    cases hm'
    rfl
  | ⟨9, _⟩, hm =>
    have hm' : some (1 : Int) = some m := hm
    cases hm'
    rfl
  | ⟨10, _⟩, hm =>
    have hm' : some (3 : Int) = some m := hm
    cases hm'
    rfl
  | ⟨11, _⟩, hm =>
    have hm' : some (5 : Int) = some m := hm
    cases hm'
    rfl
theorem wA_d (a : Ar) : wA a 100 = [ito a.node] := by unfold wA; rw [if_pos rfl]
theorem wA_s (a : Ar) : wA a 115 = [ito a.source] := by unfold wA; rw [if_neg (by decide), if_pos rfl]
theorem wA_n (a : Ar) : wA a 110 = [ito a.n] := by unfold wA; rw [if_neg (by decide), if_neg (by decide), if_pos rfl]
theorem wA_o (a : Ar) : wA a 111 = opWords a.op (opMask a) := by unfold wA; rw [if_neg (by decide), if_neg (by decide), if_neg (by decide), if_pos rfl]
theorem wA_p (a : Ar) : wA a 112 = a.picks.map ito := by unfold wA; rw [if_neg (by decide), if_neg (by decide), if_neg (by decide), if_neg (by decide)]
theorem cpA_d (a q : Ar) : cpA a q 100 = { q with node := a.node } := by unfold cpA; rw [if_pos rfl]
theorem cpA_s (a q : Ar) : cpA a q 115 = { q with source := a.source } := by unfold cpA; rw [if_neg (by decide), if_pos rfl]
theorem cpA_n (a q : Ar) : cpA a q 110 = { q with n := a.n } := by unfold cpA; rw [if_neg (by decide), if_neg (by decide), if_pos rfl]
theorem cpA_o (a q : Ar) : cpA a q 111 = { q with op := a.op } := by unfold cpA; rw [if_neg (by decide), if_neg (by decide), if_neg (by decide), if_pos rfl]
theorem cpA_p (a q : Ar) : cpA a q 112 = { q with picks := a.picks } := by unfold cpA; rw [if_neg (by decide), if_neg (by decide), if_neg (by decide), if_neg (by decide)]
theorem actOfT_range {s : ByteArray} {a : Ar} (h : actOfT s = some a) : 1 ≤ a.kind ∧ a.kind ≤ 12 := by
  obtain ⟨h1, _, _⟩ := actText_of h
  obtain ⟨m, hm, _⟩ := mayAct_mask h1
  exact getI_act hm
/-- letters ahead of the last one are numbers -/
theorem lettersA_head : ∀ x : Fin 12, ∀ i : Fin 3, i.val + 1 < (bs (rapPt x)).length → ∀ c, (bs (rapPt x))[i.val]? = some c → c = 100 ∨ c = 115 ∨ c = 110 := by decide
theorem lettersA_op : ∀ x : Fin 12, ∀ i : Fin 3, (bs (rapPt x))[i.val]? = some 111 → i.val = 1 := by decide
theorem flat_at {f : UInt8 → List ByteArray} : ∀ (l : Bs) (i : Nat), (∀ j c, j < i → l[j]? = some c → (f c).length = 1) → ((l.map f).flatten).drop i = ((l.drop i).map f).flatten ∨ l.length < i
  | l, 0, _ => .inl rfl
  | [], i + 1, _ => .inr (by simp)
  | c :: l, i + 1, h => by
    have h1 := h 0 c (by omega) rfl
    rcases flat_at l i (fun j d hj hd => h (j + 1) d (by omega) (by simpa using hd)) with e | e
    · left
      rw [List.map_cons, List.flatten_cons, List.drop_append, h1]
      simp only [List.drop_succ_cons, Nat.add_sub_cancel]
      rw [e, List.drop_of_length_le (by omega), List.nil_append]
    · right; simp only [List.length_cons]; omega
theorem wA_one {a : Ar} {c : UInt8} (h : c = 100 ∨ c = 115 ∨ c = 110) : (wA a c).length = 1 := by
  rcases h with rfl | rfl | rfl
  · rw [wA_d]; rfl
  · rw [wA_s]; rfl
  · rw [wA_n]; rfl
/-- the words from a letter on -/
theorem words_from {s : ByteArray} {x : Fin 12} {i : Nat} {c : UInt8} (hc : (bs (rapPt x))[i]? = some c) : ∀ a, actOfT s = some a → a.kind = 1 + (x.val : Int) → (splitT 32 s).drop (i + 1) = wA a c ++ (((bs (rapPt x)).drop (i + 1)).map (wA a)).flatten := by
  intro a ha hk
  have hl : i < (bs (rapPt x)).length := (List.getElem?_eq_some_iff.1 hc).1
  have h3 : (bs (rapPt x)).length ≤ 3 := by rw [bs_length]; exact partsA_size x
  rw [actWords_of ha x hk, List.drop_succ_cons]
  rcases flat_at (f := wA a) (bs (rapPt x)) i (fun j d hj hd => wA_one (lettersA_head x ⟨j, by omega⟩ (by simp only; omega) d hd)) with e | e
  · rw [e]
    obtain ⟨_, hc2⟩ := List.getElem?_eq_some_iff.1 hc
    rw [List.drop_eq_getElem_cons hl, hc2, List.map_cons, List.flatten_cons]
  · omega
/-- what the document's ActOf hands back -/
def raofR (s : ByteArray) (e : Ending) (w' : World) : Prop := match actOfT s with
  | some a => ∃ pa pc, e = .returned (.tuple #[.agg (actCells a (.slice pa a.picks.length pc)).toArray, .bool true]) ∧ PkAt w' pa a.picks
  | none => e = .returned (.tuple #[.agg (actCells arZero (.slice none 0 0)).toArray, .bool false])
/-- picks that lie behind a block -/
def PkFrom (B : Nat) (pa : Option Addr) (l : List Int) : Prop := l ≠ [] → ∃ g o, pa = some ⟨g, o, none⟩ ∧ B ≤ g
def raofF (B : Nat) (s : ByteArray) (e : Ending) (w' : World) : Prop := match actOfT s with
  | some a => ∃ pa pc, e = .returned (.tuple #[.agg (actCells a (.slice pa a.picks.length pc)).toArray, .bool true]) ∧ PkAt w' pa a.picks ∧ PkFrom B pa a.picks
  | none => e = .returned (.tuple #[.agg (actCells arZero (.slice none 0 0)).toArray, .bool false])
theorem raofF_some {B : Nat} {s : ByteArray} {e : Ending} {w' : World} {a : Ar} (h : actOfT s = some a) (hr : ∃ pa pc, e = .returned (.tuple #[.agg (actCells a (.slice pa a.picks.length pc)).toArray, .bool true]) ∧ PkAt w' pa a.picks ∧ PkFrom B pa a.picks) : raofF B s e w' := by unfold raofF; rw [h]; exact hr
theorem raofF_none {B : Nat} {s : ByteArray} {e : Ending} {w' : World} (h : actOfT s = none) (hr : e = .returned (.tuple #[.agg (actCells arZero (.slice none 0 0)).toArray, .bool false])) : raofF B s e w' := by unfold raofF; rw [h]; exact hr
theorem raofF_R {B : Nat} {s : ByteArray} {e : Ending} {w' : World} (h : raofF B s e w') : raofR s e w' := by
  unfold raofF at h
  unfold raofR
  cases ho : actOfT s with
  | none => rw [ho] at h; exact h
  | some a =>
    rw [ho] at h
    obtain ⟨pa, pc, he, hp, _⟩ := h
    exact ⟨pa, pc, he, hp⟩
theorem raofR_some {s : ByteArray} {e : Ending} {w' : World} {a : Ar} (h : actOfT s = some a) (hr : ∃ pa pc, e = .returned (.tuple #[.agg (actCells a (.slice pa a.picks.length pc)).toArray, .bool true]) ∧ PkAt w' pa a.picks) : raofR s e w' := by unfold raofR; rw [h]; exact hr
theorem raofR_none {s : ByteArray} {e : Ending} {w' : World} (h : actOfT s = none) (hr : e = .returned (.tuple #[.agg (actCells arZero (.slice none 0 0)).toArray, .bool false])) : raofR s e w' := by unfold raofR; rw [h]; exact hr
/-- the rest of a line, behind two words -/
theorem rest_of {s : ByteArray} {h0 h1 h2 : ByteArray} {r : List ByteArray} (h : splitT 32 s = h0 :: h1 :: h2 :: r) : h0.size + h1.size + 2 ≤ s.size ∧ s.extract (h0.size + h1.size + 2) s.size = joinS (h2 :: r) := by
  have hs := join_split s
  rw [h] at hs
  have hb : bs s = (bs h0 ++ 32 :: (bs h1 ++ [32])) ++ bs (joinS (h2 :: r)) := by
    rw [← hs, bs_joinS, bs_joinS]
    simp [gluL]
  have hl : (bs h0 ++ 32 :: (bs h1 ++ [32])).length = h0.size + h1.size + 2 := by
    simp only [List.length_append, List.length_cons, List.length_nil, bs_length]; omega
  have hsz : s.size = h0.size + h1.size + 2 + (joinS (h2 :: r)).size := by
    rw [← bs_length s, hb, List.length_append, hl, bs_length]
  refine ⟨by omega, ?_⟩
  rw [← txt_bs (s.extract _ _), bs_extract, hb, ← hl, List.drop_left, List.take_of_length_le (by rw [bs_length]; omega), txt_bs]
/-- what is read of a line as an act, so far -/
def readSoA (s : ByteArray) (x : Fin 12) (i : Nat) (q : Ar) : Prop := ∀ a, actOfT s = some a → a.kind = 1 + (x.val : Int) → q = partA a ((bs (rapPt x)).take i)
theorem readSoA_next {s : ByteArray} {x : Fin 12} {i : Nat} {q q' : Ar} {c : UInt8} (h : readSoA s x i q) (hc : (bs (rapPt x))[i]? = some c) (hq : ∀ a, actOfT s = some a → a.kind = 1 + (x.val : Int) → q' = cpA a q c) : readSoA s x (i + 1) q' := by
  intro a ha hk
  obtain ⟨hl, hc⟩ := List.getElem?_eq_some_iff.1 hc
  rw [List.take_succ_eq_append_getElem hl, hc, partA_snoc, ← h a ha hk]
  exact hq a ha hk
/-- a line that ends early: the letter left names no number -/
theorem readSoA_early {s : ByteArray} {x : Fin 12} {i : Nat} {q : Ar} {c : UInt8} (h : readSoA s x i q) (hc : (bs (rapPt x))[i]? = some c) (hl : (splitT 32 s).length ≤ i + 1) : ∀ a, actOfT s = some a → a.kind = 1 + (x.val : Int) → q = a := by
  intro a ha hk
  have hw := words_from (s := s) hc a ha hk
  rw [List.drop_of_length_le hl] at hw
  have h1 : wA a c = [] := (List.append_eq_nil_iff.1 hw.symm).1
  have h2 : ((((bs (rapPt x)).drop (i + 1)).map (wA a)).flatten) = [] := (List.append_eq_nil_iff.1 hw.symm).2
  have hlen : i < (bs (rapPt x)).length := (List.getElem?_eq_some_iff.1 hc).1
  have h3 : (bs (rapPt x)).length ≤ 3 := by rw [bs_length]; exact partsA_size x
  have hlast : i + 1 = (bs (rapPt x)).length := by
    rcases Nat.lt_or_ge (i + 1) (bs (rapPt x)).length with hlt | hge
    · have := wA_one (a := a) (lettersA_head x ⟨i, by omega⟩ hlt c hc)
      rw [h1] at this; cases this
    · omega
  have hcl : c = 100 ∨ c = 115 ∨ c = 110 ∨ c = 111 ∨ c = 112 := partsA_letters x c (List.mem_of_getElem? hc)
  have hpk : c = 112 ∧ a.picks = [] := by
    rcases hcl with rfl | rfl | rfl | rfl | rfl
    · rw [wA_d] at h1; cases h1
    · rw [wA_s] at h1; cases h1
    · rw [wA_n] at h1; cases h1
    · rw [wA_o, opWords_opt] at h1; cases h1
    · rw [wA_p] at h1; exact ⟨rfl, List.map_eq_nil_iff.1 h1⟩
  have hq := h a ha hk
  have hall := partA_all (actText_of ha).1 x hk
  have htk : (bs (rapPt x)).take (i + 1) = bs (rapPt x) := List.take_of_length_le (by omega)
  obtain ⟨_, hc2⟩ := List.getElem?_eq_some_iff.1 hc
  rw [← htk, List.take_succ_eq_append_getElem hlen, hc2, partA_snoc, ← hq, hpk.1, cpA_p] at hall
  have hz : q.picks = [] := by
    rw [hq]
    have : ∀ (l : Bs) (q0 : Ar), q0.picks = [] → (∀ d ∈ l, d = 100 ∨ d = 115 ∨ d = 110) → (l.foldl (cpA a) q0).picks = [] := by
      intro l
      induction l with
      | nil => intro q0 h0 _; exact h0
      | cons d l ih =>
        intro q0 h0 hd
        rw [List.foldl_cons]
        refine ih _ ?_ (fun e he => hd e (by simp [he]))
        rcases hd d (by simp) with rfl | rfl | rfl
        · rw [cpA_d]; exact h0
        · rw [cpA_s]; exact h0
        · rw [cpA_n]; exact h0
    refine this _ _ rfl fun d hd => ?_
    obtain ⟨n, hn, hn2⟩ := List.mem_iff_getElem.1 hd
    rw [List.length_take] at hn
    have hg : (bs (rapPt x))[n]? = some d := by
      rw [← hn2, List.getElem_take]
      exact List.getElem?_eq_getElem (by omega)
    exact lettersA_head x ⟨n, by omega⟩ (by simp only; omega) d hg
  rw [hpk.2, ← hz] at hall
  exact hall
end Go.Proofs.YtgplaeopcejmoaaGreatDoor
namespace Go.Proofs.YtgplaeopcejmoaaGreatDoor
open Go.RowKit Go.Shelf

/-- what stands while the document reads an act -/
structure Rac (w W : World) (v : Value) (l : List ByteArray) : Prop where
  below : Below w.heap.size w W
  res : Blk W w.heap.size 39 (actCells arZero (.slice none 0 0))
  row : OwnS W (w.heap.size + 1) v l
theorem Rac.next {w W W' : World} {v : Value} {l : List ByteArray} (h : Rac w W v l) (hb : Below W.heap.size W W') : Rac w W' v l :=
  ⟨h.below.trans (hb.mono h.below.size), h.res.below hb h.res.lt, h.row.below hb⟩
theorem Rac.alloc {w W : World} {v : Value} {l : List ByteArray} (h : Rac w W v l) (x : Obj) : Rac w (W.alloc x) v l := h.next ((Below.refl _ _).alloc (Nat.le_refl _) _)
theorem Rac.turn {w W W' : World} {v : Value} {l : List ByteArray} (h : Rac w W v l) {row : Option Nat} (hg : W.grownBy W' row) (h0 : ∀ i, row = some i → w.heap.size < i) (h1 : v.ownBlock = none ∨ v.ownBlock ≠ row) : Rac w W' v l :=
  ⟨h.below.grown hg h.below.size (fun i e => Nat.le_of_lt (h0 i e)), h.res.grown hg (fun e => by have := h0 _ e.symm; omega), World.ownsRow.kept h.row hg h1⟩
theorem Rac.cell {w W : World} {g n c : Nat} {l : List ByteArray} (h : Rac w W (.slice (some ⟨g, 0, none⟩) n c) l) {j : Nat} {x : ByteArray} (hx : l[j]? = some x) : W.cell? ⟨g, j, none⟩ = some (.string x) := by
  have := World.ownsRow.cells h.row (g := g) rfl j (.string x) (by simp [cellsS, hx])
  rw [Addr.add_lit] at this
  simpa using this
/-- an act's box, and its picks -/
structure Rab (w W : World) (ab : Nat) (pv : Value) (q : Ar) : Prop where
  box : Blk W ab 39 (actCells q pv)
  own : OwnI W (w.heap.size + 1) pv q.picks
  abB : w.heap.size < ab
theorem Rab.next {w W W' : World} {ab : Nat} {pv : Value} {q : Ar} (h : Rab w W ab pv q) (hb : Below W.heap.size W W') : Rab w W' ab pv q :=
  ⟨h.box.below hb h.box.lt, World.ownsRow.kept h.own ⟨hb.os, hb.tape, hb.output, hb.size, fun j hj _ => hb.block j hj⟩ (row := none) (by
    cases e : pv.ownBlock with
    | none => exact .inl rfl
    | some g => exact .inr (by simp)), h.abB⟩
theorem ownI_ne {w : World} {base k : Nat} {v : Value} {l : List Int} {ob : Obj} (ho : OwnI w base v l) (hk : w.heap[k]? = some ob) (hob : ∀ cur, ob ≠ .cells cur 3 (0, 0)) : some k ≠ v.ownBlock := by
  intro e
  rcases ho.2 with ⟨rfl, _⟩ | ⟨g, cap, cur, rfl, _, hg, _⟩
  · simp [Value.ownBlock] at e
  · obtain rfl : k = g := by simpa [Value.ownBlock] using e
    rw [hk] at hg
    exact hob cur (by injection hg)
theorem ownSI_ne {w : World} {base : Nat} {v pv : Value} {l : List ByteArray} {ps : List Int} (hs : OwnS w base v l) (hi : OwnI w base pv ps) : v.ownBlock = none ∨ v.ownBlock ≠ pv.ownBlock := by
  cases e : v.ownBlock with
  | none => exact .inl rfl
  | some k =>
    right
    rcases hs.2 with ⟨rfl, _⟩ | ⟨g, cap, cur, rfl, _, hg, _⟩
    · simp [Value.ownBlock] at e
    · obtain rfl : g = k := by simpa [Value.ownBlock] using e
      exact ownI_ne hi hg (by intro cur2 e2; injection e2 with _ e2; exact absurd e2 (by decide))
theorem Rac.box_ne {w W : World} {v : Value} {l : List ByteArray} {ab : Nat} {L : List Value} (h : Rac w W v l) (hB : Blk W ab 39 L) : v.ownBlock = none ∨ v.ownBlock ≠ some ab :=
  .inr (Ne.symm (own_ne h.row hB (by intro cur e; injection e with _ e; exact absurd e (by decide))))
theorem Rab.field {w W : World} {ab : Nat} {pv : Value} {q q' : Ar} (h : Rab w W ab pv q) (j : Nat) (v : Value) (hj : j < 12) (hq : (actCells q pv).set j v = actCells q' pv) (hp : q'.picks = q.picks) : Rab w (W.setCell ⟨ab, j, none⟩ v) ab pv q' :=
  ⟨by rw [← hq]; exact h.box.setCell j v (by simp [actCells]; omega), by rw [hp]; exact World.ownsRow.kept h.own (grown_setCell _ _ _ _) (.inr (Ne.symm (ownI_ne h.own h.box (by intro cur e; injection e with _ e; exact absurd e (by decide))))), h.abB⟩
theorem Rac.store {w W : World} {v : Value} {l : List ByteArray} {ab : Nat} {L : List Value} (h : Rac w W v l) (hB : Blk W ab 39 L) (ho : w.heap.size < ab) (j : Nat) (x : Value) : Rac w (W.setCell ⟨ab, j, none⟩ x) v l :=
  h.turn (grown_setCell _ _ _ _) (fun i e => by injection e with e; omega) (h.box_ne hB)
theorem cells12r {W : World} {b : Nat} {T : TypeId} {q : Ar} {pv : Value} (h : Blk W b T (actCells q pv)) : W.cell? ⟨b, 0, none⟩ = some (.int .i64 q.kind) ∧ W.cell? ⟨b, 1, none⟩ = some (.int .i64 q.node) ∧ W.cell? ⟨b, 2, none⟩ = some (.int .i64 q.source) ∧ W.cell? ⟨b, 3, none⟩ = some (.int .i64 q.n) ∧ W.cell? ⟨b, 4, none⟩ = some (.int .i64 q.op.kind) ∧ W.cell? ⟨b, 5, none⟩ = some (.int .u64 (q.op.n : Int)) ∧ W.cell? ⟨b, 6, none⟩ = some (.string q.op.key) ∧ W.cell? ⟨b, 7, none⟩ = some (.string q.op.til) ∧ W.cell? ⟨b, 8, none⟩ = some (.string q.op.value) ∧ W.cell? ⟨b, 9, none⟩ = some (.int .i64 q.op.level) ∧ W.cell? ⟨b, 10, none⟩ = some (.int .u64 (q.op.lsn : Int)) ∧ W.cell? ⟨b, 11, none⟩ = some pv :=
  ⟨h.cell 0, h.cell 1, h.cell 2, h.cell 3, h.cell 4, h.cell 5, h.cell 6, h.cell 7, h.cell 8, h.cell 9, h.cell 10, h.cell 11⟩
theorem arZero_ok (k : Int) : ActOk { arZero with kind := k } := ⟨zero64, zero64, zero64, (fun x hx => by cases hx), by show 0 < _; omega, by show 0 < _; omega, zero64⟩
theorem Env.drewz {w : World} (h : Env w) : Env w.drew := ⟨h.tab, h.mxl, h.syn, h.rng⟩
theorem step_store_mid {P : Program} {w : World} {ops : Array Oper} {o : Oper} {a : Act} {K : Act → World → Prop} {Q : Exit → Act → World → Prop} {E : Prop} (hgd : o.guard = none) (ty : TypeId) (x y : Operand) (ho : o.op = .store ty x y) (b f : Nat) (cells : Array Value)
    (hx : a.eval x = .pointer (some ⟨b, f, none⟩)) (hy : a.eval y = .agg cells) (ht : w.there b f cells.size) (hi : (P.info? ty).map (·.size) = some cells.size) (h1 : cells.all (·.oneCell') = true) (h : K (a.put o.dst undef) (w.setCells b f cells.toList)) :
    if Region.wanted o (yielded ops a.tmps) = true then Oper.wp P o a w K Q else E := by
  have hw : Region.wanted o (yielded ops a.tmps) = true := by simp [Region.wanted, hgd]
  rw [if_pos hw]
  exact wp_store_mid ty x y ho b f cells hx hy ht hi h1 h
theorem mayAct_op0 {a : Ar} (h : mayAct a = true) (x : Fin 12) (hk : a.kind = 1 + (x.val : Int)) (h0 : x.val = 0) : mayOp a.op = true := by
  obtain ⟨m, _, hp, hw⟩ := mayAct_parts h x hk
  refine (mayA_parts hw).2.2.2.2.2.2 ?_
  rw [hp.2.2.2.1]
  have hx0 : x = (0 : Fin 12) := Fin.ext h0
  rw [hx0]; rfl
theorem head_of {l r : List ByteArray} {x y : ByteArray} {n : Nat} (h : l.drop n = [x] ++ r) (hy : l[n]? = some y) : y = x := by
  have h1 : (l.drop n)[0]? = some y := by rw [List.getElem?_drop]; exact hy
  rw [h] at h1
  exact (Option.some.inj h1).symm
theorem wrap_rangeK (v : Int) : -9223372036854775808 ≤ IntKind.i64.wrap v ∧ IntKind.i64.wrap v ≤ 9223372036854775807 := by
  rw [IntKind.wrap_i64]; omega
theorem pick_next {r : List ByteArray} {ps l2 : List Int} {n m : Nat} {y : ByteArray} {v : Nat} (h : r.drop n = ps.map ito) (hy : r[n + m]? = some y) (hv : numR y v) (hr : ∀ z ∈ ps, -9223372036854775808 ≤ z ∧ z ≤ 9223372036854775807) (hl : l2 = ps.take m) : l2 ++ [IntKind.i64.wrap (v : Int)] = ps.take (m + 1) := by
  have h1 : (r.drop n)[m]? = some y := by rw [List.getElem?_drop]; exact hy
  rw [h, List.getElem?_map] at h1
  obtain ⟨k, hk, hky⟩ := Option.map_eq_some_iff.1 h1
  obtain ⟨hlt, hk2⟩ := List.getElem?_eq_some_iff.1 hk
  have e : IntKind.i64.wrap (v : Int) = k := hv.2.2 k (hr k (List.mem_of_getElem? hk)) hky.symm
  rw [List.take_succ_eq_append_getElem hlt, hk2, e, hl]
theorem mayAct_small {a : Ar} (h : mayAct a = true) : smallA a := by
  obtain ⟨m, _, hw⟩ := mayAct_mask h
  obtain ⟨_, _, _, w8, _, wl, wo⟩ := mayA_parts hw
  cases h8 : hasF m 8 with
  | true =>
    have := mayOp_small (wo h8)
    exact ⟨this.1, this.2.1, this.2.2, by omega⟩
  | false =>
    rw [show smallA a = (a.op.key.size ≤ 2000 ∧ a.op.til.size ≤ 2000 ∧ a.op.value.size ≤ 2000 ∧ a.picks.length ≤ 2000) from rfl, w8 h8]
    exact ⟨by decide, by decide, by decide, by omega⟩
theorem ownI_pk {w : World} {base : Nat} {pv : Value} {l : List Int} (h : OwnI w base pv l) : ∃ A c, pv = .slice A l.length c ∧ PkAt w A l := by
  obtain ⟨A, c, rfl⟩ := h.any
  refine ⟨A, c, rfl, fun hl => ?_⟩
  obtain ⟨g, cap, hv, _, hg⟩ := h.form hl
  injection hv with hA
  subst hA
  exact ⟨g, 0, rfl, hg, fun j x hx => h.cells rfl j x hx⟩
set_option maxRecDepth 100000 in
set_option maxHeartbeats 8000000 in
theorem refaof_own (s : ByteArray) (hs : s.size ≤ 90000) (w : World) (henv : Env w) :
    Calls Tryz.prog 31 #[.string s] w fun e w' => raofF w.heap.size s e w' ∧ Below w.heap.size w w' := by
  have hR0 := Blk.new w 39 (actCells arZero (.slice none 0 0))
  have hb0 : Below w.heap.size w (w.alloc (.cells (actCells arZero (.slice none 0 0)).toArray 39)) := (Below.refl _ _).alloc (Nat.le_refl _) _
  obtain ⟨h, r, hhr⟩ : ∃ h r, splitT 32 s = h :: r := by
    cases e : splitT 32 s with
    | nil =>
      unfold splitT at e
      exact absurd (List.map_eq_nil_iff.1 e) (cutsL_ne _ _)
    | cons a r => exact ⟨a, r, rfl⟩
  have hrl : r.length ≤ 90000 := by have := split_len s; rw [hhr, List.length_cons] at this; omega
  have hrl0 : (0 : Int) < ((r.length + 1 : Nat) : Int) := by omega
  have HH := Lib.hid hhr
  have HR0 := Lib.hid hR0
  clear hhr hR0
  go_enter Tryz.func31, Tryz.ntmps31
  go_wp2_with (go_at_call 24; refine (split_any s 32 hs _).mono ?_; rintro e w1 ⟨⟨v, rfl, ho⟩, hb1⟩
               rw [HH.out] at ho
               obtain ⟨g, c, rfl, hg1, hg2⟩ := ho.form (by simp)
               have hX : Hid (Rac w w1 (.slice (some ⟨g, 0, none⟩) (r.length + 1) c) (h :: r)) := Lib.hid ⟨hb0.trans (hb1.mono (by simp)), HR0.out.below hb1 HR0.out.lt, by rw [World.size_alloc] at ho; exact ho⟩
               clear ho hb1
               rw [List.length_cons])
  go_loopw [5] (fun i wr => ∃ j : Nat, j ≤ 12 ∧ i = .int .i64 (1 + (j : Int)) ∧ Hid (Rac w wr (.slice (some ⟨g, 0, none⟩) (r.length + 1) c) (h :: r)) ∧ Hid (∀ a, actOfT s = some a → (j : Int) < a.kind)) (fun i _ => 13 - (intOf i).toNat)
  case atStart => exact ⟨0, by omega, rfl, hX, Lib.hid (fun a ha => (actOfT_range ha).1)⟩
  case round =>
    obtain ⟨j, hj, rfl, HX, HK⟩ := hrel
    clear hX
    by_cases hlt : j < 12
    · obtain ⟨x, hx⟩ : ∃ x : Fin 12, x.val = j := ⟨⟨j, hlt⟩, rfl⟩
      have hxk : 1 + (x.val : Int) = 1 + (j : Int) := by rw [hx]
      have hN := rap_in x
      rw [hxk] at hN
      have hN2 : ∀ W, Calls Tryz.prog 71 #[.int .i64 (1 + (j : Int))] W fun e w' => e = .returned (.tuple #[.string (rapNm x), .string (rapPt x)]) ∧ Below W.heap.size W w' := fun W => hN W
      have hps := partsA_size x
      have hK1 : ∀ a, actOfT s = some a → a.kind ≠ 1 + (x.val : Int) → ((j + 1 : Nat) : Int) < a.kind := fun a ha hne => by have := HK.out a ha; rw [hxk] at hne; omega
      have hW1 : ∀ a, actOfT s = some a → a.kind = 1 + (x.val : Int) → h = rapNm x := fun a ha hk => by
        have := actWords_of ha x hk
        rw [HH.out] at this
        injection this
      have HN := Lib.hid hN2
      have HK1 := Lib.hid hK1
      have HW1 := Lib.hid hW1
      have hlet := partsA_letters x
      have HL := Lib.hid hlet
      have hc0 : Hid (∀ W, Rac w W (.slice (some ⟨g, 0, none⟩) (r.length + 1) c) (h :: r) → W.cell? ⟨g, 0, none⟩ = some (.string h)) := Lib.hid fun W hW => hW.cell (j := 0) rfl
      clear hN hN2 hK1 hW1 hlet
      have hj0 : 1 + (j : Int) ≤ 12 := by omega
      obtain ⟨nm, hnm⟩ : ∃ nm, rapNm x = nm := ⟨_, rfl⟩
      obtain ⟨p, hp⟩ : ∃ p, rapPt x = p := ⟨_, rfl⟩
      have HXV := Lib.hid hx
      have HXK := Lib.hid hxk
      rw [hp] at hps HL HN
      rw [hnm] at HN
      have HNM := Lib.hid hnm; have HPP := Lib.hid hp
      clear hnm hp hx hxk
      cases hq : (nm.toList == h.toList)
      · have hk2 : ∀ a, actOfT s = some a → ((j + 1 : Nat) : Int) < a.kind := fun a ha => HK1.out a ha (fun hk => by
          have := HW1.out a ha hk
          rw [this, HNM.out] at hq
          simp at hq)
        have HK2 := Lib.hid hk2
        clear hk2
        go_wp2_with (go_at_call 71; refine (HN.out _).mono ?_; rintro e w2 ⟨rfl, hb2⟩
                     have HX2 : Hid (Rac w w2 (.slice (some ⟨g, 0, none⟩) (r.length + 1) c) (h :: r)) := Lib.hid (HX.out.next hb2)
                     have q0 := hc0.out _ HX2.out)
        go_roundw
        case rel => exact ⟨j + 1, by omega, by go_num, HX2, HK2⟩
        case measure => simp [intOf]; omega
      · go_wp2_with (go_at_call 71; refine (HN.out _).mono ?_; rintro e w2 ⟨rfl, hb2⟩
                     have HX2 : Hid (Rac w w2 (.slice (some ⟨g, 0, none⟩) (r.length + 1) c) (h :: r)) := Lib.hid (HX.out.next hb2)
                     have q0 := hc0.out _ HX2.out)
        have hob : w.heap.size < w2.heap.size := HX2.out.res.lt
        have HB2 : Hid (Rab w (w2.alloc (.cells #[.int .i64 (1 + (j : Int)), .int .i64 0, .int .i64 0, .int .i64 0, .int .i64 0, .int .u64 0, .string ⟨#[]⟩, .string ⟨#[]⟩, .string ⟨#[]⟩, .int .i64 0, .int .u64 0, .slice none 0 0] 39)) w2.heap.size (.slice none 0 0) { arZero with kind := 1 + (j : Int) }) := Lib.hid ⟨Blk.new w2 39 (actCells { arZero with kind := 1 + (j : Int) } (.slice none 0 0)), OwnI.nil _ _, hob⟩
        have HX3 := Lib.hid (HX2.out.alloc (.cells #[.int .i64 (1 + (j : Int)), .int .i64 0, .int .i64 0, .int .i64 0, .int .i64 0, .int .u64 0, .string ⟨#[]⟩, .string ⟨#[]⟩, .string ⟨#[]⟩, .int .i64 0, .int .u64 0, .slice none 0 0] 39))
        go_loopw [9, 10] (fun t i wr => ∃ (n at' : Nat) (q : Ar) (pv : Value), n ≤ p.size ∧ i = .int .i64 n ∧ t = .int .i64 at' ∧ (n < p.size → at' = n + 1) ∧ Hid (n < p.size → q.picks = []) ∧ Hid (Rac w wr (.slice (some ⟨g, 0, none⟩) (r.length + 1) c) (h :: r)) ∧ Hid (Rab w wr w2.heap.size pv q) ∧ Hid (ActOk q) ∧ Hid (q.kind = 1 + (j : Int)) ∧ Hid (readSoA s x n q)) (fun _ i _ => p.size - (intOf i).toNat)
        case atStart => exact ⟨0, 1, { arZero with kind := 1 + (j : Int) }, .slice none 0 0, Nat.zero_le _, rfl, rfl, fun _ => rfl, Lib.hid (fun _ => rfl), HX3, HB2, Lib.hid (arZero_ok _), Lib.hid rfl, Lib.hid (fun a _ hk => by rw [HXK.out] at hk; unfold partA; rw [hk]; rfl)⟩
        case round =>
          obtain ⟨n, at', q, pv, hn, rfl, rfl, hat, HPZ, HXr, HBr, HOK, HKD, HSO⟩ := hrel
          clear HB2 HX3 q0
          by_cases hgo : n < p.size ∧ n < r.length
          · obtain ⟨hnl, hnr⟩ := hgo
            obtain rfl := hat hnl
            obtain ⟨cc, hcc⟩ : ∃ cc : UInt8, p[n] = cc := ⟨_, rfl⟩
            have hci : ∀ h, p[n]'h = cc := fun _ => hcc
            have hg : (bs p)[n]? = some cc := by rw [bs_get hnl, hcc]
            clear hcc
            have hgx : (bs (rapPt x))[n]? = some cc := by rw [HPP.out]; exact hg
            have hm := HL.out cc (List.mem_of_getElem? hg)
            obtain ⟨y, hy⟩ : ∃ y, r[n]? = some y := ⟨_, List.getElem?_eq_getElem hnr⟩
            have hys : y.size ≤ 90000 := Nat.le_trans (split_small (s := s) (n + 1) y (by rw [HH.out]; exact hy)) hs
            have hwf : ∀ a, actOfT s = some a → a.kind = 1 + (x.val : Int) → r.drop n = wA a cc ++ (((bs (rapPt x)).drop (n + 1)).map (wA a)).flatten := fun a ha hk => by
              have := words_from (s := s) hgx a ha hk
              rw [HH.out, List.drop_succ_cons] at this
              exact this
            have fy : wr.cell? ⟨g, n + 1, none⟩ = some (.string y) := HXr.out.cell (j := n + 1) hy
            obtain ⟨f0, f1, f2, f3, f4, f5, f6, f7, f8, f9, f10, f11⟩ := cells12r HBr.out.box
            have z1 := HBr.out.box.frozen 1; have z2 := HBr.out.box.frozen 2; have z3 := HBr.out.box.frozen 3
            have HWF := Lib.hid hwf; have HY := Lib.hid hy; have HGX := Lib.hid hgx
            clear hg hwf hy hgx
            have i0 : (n : Int) < (r.length : Int) := by omega
            rcases hm with rfl | rfl | rfl | rfl | rfl
            · have hd : ∀ a, actOfT s = some a → a.kind = 1 + (x.val : Int) → y = ito a.node := fun a ha hk => by
                have := HWF.out a ha hk
                rw [wA_d] at this
                exact head_of this HY.out
              have HD := Lib.hid hd
              clear hd
              go_wp2_with (go_at_call 72; refine (rnum_any y (by omega) _).mono ?_; rintro e w4 ⟨⟨v, rfl, hv⟩, rfl⟩
                           have HV := Lib.hid hv
                           clear hv)
              go_roundw
              case rel => exact ⟨n + 1, n + 1 + 1, { q with node := wrap64 (v : Int) }, pv, by omega, by go_num, by go_num, fun _ => rfl, Lib.hid (fun _ => HPZ.out hnl), Lib.hid (HXr.out.store HBr.out.box HBr.out.abB 1 _), Lib.hid (HBr.out.field 1 _ (by omega) rfl rfl), Lib.hid { HOK.out with node := wrap_range _ }, HKD, Lib.hid (readSoA_next HSO.out HGX.out fun a ha hk => by
                rw [cpA_d]
                have e : wrap64 (v : Int) = a.node := (IntWalk.i64_left _).symm.trans <| HV.out.2.2 a.node (actText_of ha).2.2.node (HD.out a ha hk)
                rw [e])⟩
              case measure => simp [intOf]; omega
            · have hd : ∀ a, actOfT s = some a → a.kind = 1 + (x.val : Int) → y = ito a.source := fun a ha hk => by
                have := HWF.out a ha hk
                rw [wA_s] at this
                exact head_of this HY.out
              have HD := Lib.hid hd
              clear hd
              go_wp2_with (go_at_call 72; refine (rnum_any y (by omega) _).mono ?_; rintro e w4 ⟨⟨v, rfl, hv⟩, rfl⟩
                           have HV := Lib.hid hv
                           clear hv)
              go_roundw
              case rel => exact ⟨n + 1, n + 1 + 1, { q with source := wrap64 (v : Int) }, pv, by omega, by go_num, by go_num, fun _ => rfl, Lib.hid (fun _ => HPZ.out hnl), Lib.hid (HXr.out.store HBr.out.box HBr.out.abB 2 _), Lib.hid (HBr.out.field 2 _ (by omega) rfl rfl), Lib.hid { HOK.out with source := wrap_range _ }, HKD, Lib.hid (readSoA_next HSO.out HGX.out fun a ha hk => by
                rw [cpA_s]
                have e : wrap64 (v : Int) = a.source := (IntWalk.i64_left _).symm.trans <| HV.out.2.2 a.source (actText_of ha).2.2.source (HD.out a ha hk)
                rw [e])⟩
              case measure => simp [intOf]; omega
            · have hd : ∀ a, actOfT s = some a → a.kind = 1 + (x.val : Int) → y = ito a.n := fun a ha hk => by
                have := HWF.out a ha hk
                rw [wA_n] at this
                exact head_of this HY.out
              have HD := Lib.hid hd
              clear hd
              go_wp2_with (go_at_call 72; refine (rnum_any y (by omega) _).mono ?_; rintro e w4 ⟨⟨v, rfl, hv⟩, rfl⟩
                           have HV := Lib.hid hv
                           clear hv)
              go_roundw
              case rel => exact ⟨n + 1, n + 1 + 1, { q with n := wrap64 (v : Int) }, pv, by omega, by go_num, by go_num, fun _ => rfl, Lib.hid (fun _ => HPZ.out hnl), Lib.hid (HXr.out.store HBr.out.box HBr.out.abB 3 _), Lib.hid (HBr.out.field 3 _ (by omega) rfl rfl), Lib.hid { HOK.out with n := wrap_range _ }, HKD, Lib.hid (readSoA_next HSO.out HGX.out fun a ha hk => by
                rw [cpA_n]
                have e : wrap64 (v : Int) = a.n := (IntWalk.i64_left _).symm.trans <| HV.out.2.2 a.n (actText_of ha).2.2.n (HD.out a ha hk)
                rw [e])⟩
              case measure => simp [intOf]; omega
            · have hn1 : n = 1 := lettersA_op x ⟨n, by omega⟩ HGX.out
              have hlast : ¬ n + 1 < p.size := fun e => by
                have := lettersA_head x ⟨n, by omega⟩ (by rw [HPP.out, bs_length]; exact e) 111 HGX.out
                revert this; decide
              obtain ⟨h1, r2, hr2⟩ : ∃ h1 r2, r = h1 :: y :: r2 := by
                have hy := HY.out
                rw [hn1] at hy
                cases r with
                | nil => cases hy
                | cons a t =>
                  cases t with
                  | nil => cases hy
                  | cons b t2 => exact ⟨a, t2, by rw [List.getElem?_cons_succ, List.getElem?_cons_zero] at hy; rw [Option.some.inj hy]⟩
              have hsp : splitT 32 s = h :: h1 :: y :: r2 := by rw [HH.out, hr2]
              obtain ⟨hz, hxt⟩ := rest_of hsp
              obtain ⟨t, ht⟩ : ∃ t, s.extract (h.size + h1.size + 2) s.size = t := ⟨_, rfl⟩
              have hts : t.size ≤ 90000 := by rw [← ht, ByteArray.size_extract]; omega
              obtain ⟨o8, b8, h8, ok8, hu8⟩ : ∃ o8 b8, ropV t = .tuple #[opV o8, .bool b8] ∧ OprOk o8 ∧ ∀ o, opOfT t = some o → o8 = o := by
                cases e : opOfT t with
                | none => exact ⟨opZero, false, ropV_none e, opZero_ok 0, fun o h => by cases h⟩
                | some o => exact ⟨o, true, ropV_some e, (opText_of e).2.2, fun o' h => Option.some.inj h⟩
              have ha8 : ∀ a, actOfT s = some a → a.kind = 1 + (x.val : Int) → o8 = a.op := fun a ha hk => by
                have h2 := HWF.out a ha hk
                have hz2 : (bs (rapPt x)).drop (n + 1) = [] := List.drop_of_length_le (by rw [HPP.out, bs_length]; omega)
                rw [hz2, wA_o, hn1, hr2] at h2
                simp only [List.drop_succ_cons, List.drop_zero, List.map_nil, List.flatten_nil, List.append_nil] at h2
                obtain ⟨m, hm, _, hw⟩ := mayAct_parts (actText_of ha).1 x hk
                have hx0 : x.val = 0 := partsA_op x (List.mem_of_getElem? HGX.out)
                have hmo := mayAct_op0 (actText_of ha).1 x hk hx0
                have htx : t = opText a.op := by rw [← ht, hxt, h2, opText_eq (mask_of hmo).1]
                have := opOfT_text hmo (actText_of ha).2.2.op
                rw [← htx] at this
                exact hu8 _ this
              have hcall : ∀ W, Env W → Calls Tryz.prog 30 #[.string t] W fun e w' => ∃ v, e = .returned v ∧ (v = .tuple #[.agg #[.int .i64 o8.kind, .int .u64 (o8.n : Int), .string o8.key, .string o8.til, .string o8.value, .int .i64 o8.level, .int .u64 (o8.lsn : Int)], .bool b8] ∧ Below W.heap.size W w') := fun W hW => (refopof_any t hts W hW).mono fun _ _ ⟨he, hb⟩ => ⟨_, he, h8, hb⟩
              have hc1 : wr.cell? ⟨g, 1, none⟩ = some (.string h1) := HXr.out.cell (j := 1) (by rw [hr2]; rfl)
              have hc00 : wr.cell? ⟨g, 0, none⟩ = some (.string h) := hc0.out _ HXr.out
              have hs1 : h.size ≤ 90000 := Nat.le_trans (split_small (s := s) 0 h (by rw [hsp]; rfl)) hs
              have hs2 : h1.size ≤ 90000 := Nat.le_trans (split_small (s := s) 1 h1 (by rw [hsp]; rfl)) hs
              have HCALL := Lib.hid hcall; have HA8 := Lib.hid ha8; have HLAST := Lib.hid hlast; have HOK8 := Lib.hid ok8
              have htt : ∀ k, k = h.size + h1.size + 2 → s.extract k s.size = t := fun k hk => by rw [hk]; exact ht
              have HT := Lib.hid htt
              clear hcall ha8 h8 ok8 hxt htt hlast hsp hu8 ht hr2 hn1
              go_wp2_with (go_at_call 72; refine (rnum_any y (by omega) _).mono ?_; rintro e w4 ⟨⟨v, rfl, hv⟩, rfl⟩; clear hv)
              have b1 : (1 : Int) < (r.length : Int) + 1 := by omega
              have b2 : IntKind.i64.wrap ((h.size : Int) + (h1.size : Int)) = (h.size : Int) + (h1.size : Int) := by rw [IntKind.wrap_i64]; omega
              have b3 : IntKind.i64.wrap ((h.size : Int) + (h1.size : Int) + 2) = (h.size : Int) + (h1.size : Int) + 2 := by rw [IntKind.wrap_i64]; omega
              have b4 : 0 ≤ (h.size : Int) + (h1.size : Int) + 2 := by omega
              have b5 : (h.size : Int) + (h1.size : Int) + 2 ≤ (s.size : Int) := by omega
              have b6 : s.extract ((h.size : Int) + (h1.size : Int) + 2).toNat s.size = t := HT.out _ (by omega)
              clear hz hs1 hs2 hts
              go_region_law (first
                | (refine step_call1 rfl 30 (.tmp 100) _ rfl (enters_of Tryz.func30 (by kernel_rfl) rfl) _ (by simp [Act.eval]; try rfl) (HCALL.out _ ((henv.below HXr.out.below).drewz)) ?_
                   rintro vh w5 ⟨rfl, hb5⟩
                   replace hb5 := below_undrew hb5
                   have HX5 := HXr.out.next hb5
                   have HB5 := HBr.out.next hb5
                   obtain ⟨t0, t1, t2, t3, t4, t5, t6, t7, t8, t9, t10, t11⟩ := cells12r HB5.box
                   have r4 := HB5.box.frozen 4; have r5 := HB5.box.frozen 5; have r6 := HB5.box.frozen 6; have r7 := HB5.box.frozen 7; have r8 := HB5.box.frozen 8; have r9 := HB5.box.frozen 9; have r10 := HB5.box.frozen 10)
                | (refine step_store_mid rfl 34 _ _ rfl w2.heap.size 4 (opCells o8).toArray (by simp [Act.eval]; try rfl) (by simp [Act.eval]; try rfl) (HB5.box.there (by simp [opCells, actCells])) infoOp (opCells_one _) ?_))
              all_goals
                have HX6 := Lib.hid (HX5.turn (grown_setCells w2.heap.size (opCells o8).toArray.toList w5 4) (fun i e => by injection e with e; omega) (HX5.box_ne HB5.box))
                have HB6 : Hid (Rab w (w5.setCells w2.heap.size 4 (opCells o8).toArray.toList) w2.heap.size pv { q with op := o8 }) := Lib.hid ⟨HB5.box.setCells (opCells o8).toArray.toList 4 (by simp [opCells, actCells]), World.ownsRow.kept HB5.own (grown_setCells _ _ _ _) (.inr (Ne.symm (ownI_ne HB5.own HB5.box (by intro cur e; injection e with _ e; exact absurd e (by decide))))), HB5.abB⟩
                go_wp2
                go_roundw
                case rel => exact ⟨n + 1, n + 1, { q with op := o8 }, pv, by omega, by go_num, by go_num, (fun e => absurd e HLAST.out), Lib.hid (fun e => absurd e HLAST.out), HX6, HB6, Lib.hid ⟨HOK.out.node, HOK.out.source, HOK.out.n, HOK.out.picks, HOK8.out.n, HOK8.out.lsn, HOK8.out.level⟩, HKD, Lib.hid (readSoA_next HSO.out HGX.out fun a ha hk => by rw [cpA_o, HA8.out a ha hk])⟩
                case measure => simp [intOf]; omega
            · have hlast : ¬ n + 1 < p.size := fun e => by
                have := lettersA_head x ⟨n, by omega⟩ (by rw [HPP.out, bs_length]; exact e) 112 HGX.out
                revert this; decide
              have hqe : ({ q with picks := [] } : Ar) = q := by
                have := HPZ.out hnl
                cases q
                simp only at this
                subst this
                rfl
              have hap : ∀ a, actOfT s = some a → a.kind = 1 + (x.val : Int) → r.drop n = a.picks.map ito := fun a ha hk => by
                have h2 := HWF.out a ha hk
                have hz2 : (bs (rapPt x)).drop (n + 1) = [] := List.drop_of_length_le (by rw [HPP.out, bs_length]; omega)
                rw [hz2, wA_p] at h2
                simpa using h2
              have HAP := Lib.hid hap; have HLAST := Lib.hid hlast; have HQE := Lib.hid hqe
              clear hlast hap hqe
              go_wp2_with (go_at_call 72; refine (rnum_any y (by omega) _).mono ?_; rintro e w4 ⟨⟨v, rfl, hv⟩, rfl⟩; clear hv)
              go_loopw [9] (fun t wr => ∃ (m : Nat) (l2 : List Int) (pv2 : Value), n + m ≤ r.length ∧ t = .int .i64 ((n + 1 + m : Nat) : Int) ∧ Hid (l2.length = m) ∧ Hid (Rac w wr (.slice (some ⟨g, 0, none⟩) (r.length + 1) c) (h :: r)) ∧ Hid (Rab w wr w2.heap.size pv2 { q with picks := l2 }) ∧ Hid (∀ z ∈ l2, -9223372036854775808 ≤ z ∧ z ≤ 9223372036854775807) ∧ Hid (∀ a, actOfT s = some a → a.kind = 1 + (x.val : Int) → l2 = a.picks.take m)) (fun t _ => r.length + 1 - (intOf t).toNat)
              case atStart => exact ⟨0, [], pv, by omega, by go_num, Lib.hid rfl, HXr, Lib.hid (by rw [HQE.out]; exact HBr.out), Lib.hid (fun z hz => by cases hz), Lib.hid (fun a _ _ => rfl)⟩
              case round =>
                obtain ⟨m, l2, pv2, hmr, rfl, HLn, HXz, HBz, HRz, HTz⟩ := hrel
                clear f0 f1 f2 f3 f4 f5 f6 f7 f8 f9 f10 f11 fy z1 z2 z3
                by_cases hg2 : n + m < r.length
                · obtain ⟨y2, hy2⟩ : ∃ y2, r[n + m]? = some y2 := ⟨_, List.getElem?_eq_getElem hg2⟩
                  have hys2 : y2.size ≤ 90000 := Nat.le_trans (split_small (s := s) (n + m + 1) y2 (by rw [HH.out]; exact hy2)) hs
                  have fy2 : wr.cell? ⟨g, n + 1 + m, none⟩ = some (.string y2) := HXz.out.cell (j := n + 1 + m) (by rw [show n + 1 + m = n + m + 1 by omega]; exact hy2)
                  obtain ⟨A2, c2, rfl, _⟩ := ownI_pk HBz.out.own
                  have c11 : wr.cell? ⟨w2.heap.size, 11, none⟩ = some (.slice A2 l2.length c2) := HBz.out.box.cell 11
                  have f11 := HBz.out.box.frozen 11
                  have hcall : ∀ W, Calls Tryz.prog 72 #[.string y2] W fun e w' => ∃ v, e = .returned v ∧ (∃ n0 : Nat, v = .int .u64 (n0 : Int) ∧ numR y2 n0 ∧ W = w') := fun W => (rnum_any y2 (by omega) W).mono fun _ _ ⟨⟨v, he, hv⟩, hw⟩ => ⟨_, he, v, rfl, hv, hw⟩
                  have hln : l2.length ≤ 90000 := by have := HLn.out; omega
                  have hsz : w.heap.size < w2.heap.size ∧ w2.heap.size < wr.heap.size := ⟨HBz.out.abB, HBz.out.box.lt⟩
                  have HCALL := Lib.hid hcall; have HY2 := Lib.hid hy2
                  have j1 : ((n + 1 + m : Nat) : Int) < ((r.length + 1 : Nat) : Int) := by omega
                  have j2 : (n : Int) + 1 + (m : Int) < (r.length : Int) + 1 := by omega
                  have j3 : 0 ≤ (n : Int) + 1 + (m : Int) := by omega
                  have j4 : ((n : Int) + 1 + (m : Int)).toNat = n + 1 + m := by omega
                  clear hcall hy2
                  go_wp2
                  go_region_law (first
                    | (refine step_call1 rfl 72 (.tmp 62) _ rfl (enters_of Tryz.func72 (by kernel_rfl) rfl) _ (by simp [Act.eval]; try rfl) (HCALL.out _) ?_
                       rintro vh wh ⟨v2, rfl, hv2, rfl⟩
                       have HV2 := Lib.hid hv2
                       clear hv2)
                    | (refine step_append_i rfl (.tmp 58) (.tmp 65) rfl (w.heap.size + 1) (.slice A2 l2.length c2) l2 ⟨wr.heap.size, 0, none⟩ 1 1 [IntKind.i64.wrap (v2 : Int)] (by simp [Act.eval]) (by simp [Act.eval]) ((HBz.out.own.alloc (.cells #[.int .i64 (IntKind.i64.wrap (v2 : Int))] 3)).kept (grownBy_drew _ none) (by simp)) (by omega) (by have h1 : (wr.alloc (.cells #[.int .i64 (IntKind.i64.wrap (v2 : Int))] 3)).drew.heap.size = wr.heap.size + 1 := World.size_alloc _ _; omega) rfl (by omega) (by exact news_i wr [IntKind.i64.wrap (v2 : Int)]) ?_
                       intro v' w1n ho1 hg1
                       have hOx : OwnI (wr.alloc (.cells #[.int .i64 (IntKind.i64.wrap (v2 : Int))] 3)).drew (w.heap.size + 1) (.slice A2 l2.length c2) l2 := (HBz.out.own.alloc (.cells #[.int .i64 (IntKind.i64.wrap (v2 : Int))] 3)).kept (grownBy_drew _ none) (by simp)
                       have hBx : Blk (wr.alloc (.cells #[.int .i64 (IntKind.i64.wrap (v2 : Int))] 3)).drew w2.heap.size 39 (actCells { q with picks := l2 } (.slice A2 l2.length c2)) := (HBz.out.box.alloc (.cells #[.int .i64 (IntKind.i64.wrap (v2 : Int))] 3)).drew
                       have hB1 : Blk w1n w2.heap.size 39 (actCells { q with picks := l2 } (.slice A2 l2.length c2)) := hBx.grown hg1 (ownI_ne hOx hBx (by intro cur e; injection e with _ e; exact absurd e (by decide)))
                       have hXx : Rac w (wr.alloc (.cells #[.int .i64 (IntKind.i64.wrap (v2 : Int))] 3)).drew (.slice (some ⟨g, 0, none⟩) (r.length + 1) c) (h :: r) := (HXz.out.alloc (.cells #[.int .i64 (IntKind.i64.wrap (v2 : Int))] 3)).turn (grownBy_drew _ none) (by simp) (.inr (by simp [Value.ownBlock]))
                       have hX1 := hXx.turn hg1 (fun i e => by have := OwnI.size hOx i e; omega) (ownSI_ne hXx.row hOx)
                       have c11w : w1n.cell? ⟨w2.heap.size, 11, none⟩ = some (.slice A2 l2.length c2) := hB1.cell 11
                       have f11w := hB1.frozen 11
                       obtain ⟨g1, cap1, hv1, _, _⟩ := ho1.form (by simp)
                       rw [List.length_append, List.length_singleton] at hv1
                       subst hv1
                       clear hOx hBx hXx hg1))
                  all_goals
                    have hX3 := Lib.hid (hX1.store hB1 hsz.1 11 (.slice (some ⟨g1, 0, none⟩) (l2.length + 1) cap1))
                    have hB3 : Hid (Rab w (w1n.setCell ⟨w2.heap.size, 11, none⟩ (.slice (some ⟨g1, 0, none⟩) (l2.length + 1) cap1)) w2.heap.size (.slice (some ⟨g1, 0, none⟩) (l2.length + 1) cap1) { q with picks := l2 ++ [IntKind.i64.wrap (v2 : Int)] }) := Lib.hid ⟨hB1.setCell 11 (.slice (some ⟨g1, 0, none⟩) (l2.length + 1) cap1) (by simp [actCells]), World.ownsRow.kept ho1 (grown_setCell _ _ _ _) (.inr (Ne.symm (ownI_ne ho1 hB1 (by intro cur e; injection e with _ e; exact absurd e (by decide))))), hsz.1⟩
                    have hln3 : Hid ((l2 ++ [IntKind.i64.wrap (v2 : Int)]).length = m + 1) := Lib.hid (by rw [List.length_append, HLn.out]; rfl)
                    have hr3 : Hid (∀ z ∈ l2 ++ [IntKind.i64.wrap (v2 : Int)], -9223372036854775808 ≤ z ∧ z ≤ 9223372036854775807) := Lib.hid (fun z hz => by
                      rcases List.mem_append.1 hz with hz | hz
                      · exact HRz.out z hz
                      · rw [List.mem_singleton.1 hz]; exact wrap_rangeK _)
                    have ht3 : Hid (∀ a, actOfT s = some a → a.kind = 1 + (x.val : Int) → l2 ++ [IntKind.i64.wrap (v2 : Int)] = a.picks.take (m + 1)) := Lib.hid (fun a ha hk => pick_next (HAP.out a ha hk) HY2.out HV2.out (actText_of ha).2.2.picks (HTz.out a ha hk))
                    clear hX1 hB1 ho1
                    go_wp2
                    go_roundw
                    case rel => exact ⟨m + 1, _, _, by omega, by go_num, hln3, hX3, hB3, hr3, ht3⟩
                    case measure => simp [intOf]; omega
                · have hme : n + m = r.length := by omega
                  have hfin : ∀ a, actOfT s = some a → a.kind = 1 + (x.val : Int) → ({ q with picks := l2 } : Ar) = cpA a q 112 := fun a ha hk => by
                    have h1 := congrArg List.length (HAP.out a ha hk)
                    rw [List.length_drop, List.length_map] at h1
                    rw [cpA_p, HTz.out a ha hk, List.take_of_length_le (by omega)]
                  have HFIN := Lib.hid hfin
                  clear hfin
                  have j1 : ¬ (n : Int) + 1 + (m : Int) < (r.length : Int) + 1 := by omega
                  clear hme
                  go_wp2
                  go_roundw
                  case rel => exact ⟨n + 1, n + 1 + m, { q with picks := l2 }, pv2, by omega, by go_num, by go_num, (fun e => absurd e HLAST.out), Lib.hid (fun e => absurd e HLAST.out), HXz, HBz, Lib.hid { HOK.out with picks := HRz.out }, HKD, Lib.hid (readSoA_next HSO.out HGX.out fun a ha hk => HFIN.out a ha hk)⟩
                  case measure => simp [intOf]; omega
          · have hso : ∀ a, actOfT s = some a → a.kind = 1 + (x.val : Int) → q = a := fun a ha hk => by
              by_cases hnl : n < p.size
              · have hnr : ¬ n < r.length := fun e => hgo ⟨hnl, e⟩
                obtain ⟨cc, hc⟩ : ∃ cc, (bs (rapPt x))[n]? = some cc := ⟨_, List.getElem?_eq_getElem (by rw [HPP.out, bs_length]; exact hnl)⟩
                exact readSoA_early HSO.out hc (by rw [HH.out, List.length_cons]; omega) a ha hk
              · have := HSO.out a ha hk
                rw [List.take_of_length_le (by rw [HPP.out, bs_length]; omega), partA_all (actText_of ha).1 x hk] at this
                exact this
            have qk : q.kind = 1 + (x.val : Int) := by rw [HKD.out, HXK.out]
            obtain ⟨A, cA, rfl, hpk⟩ := ownI_pk HBr.out.own
            obtain ⟨f0, f1, f2, f3, f4, f5, f6, f7, f8, f9, f10, f11⟩ := cells12r HBr.out.box
            have qm : ∀ W, Calls Tryz.prog 28 #[.agg #[.int .i64 q.kind, .int .i64 q.node, .int .i64 q.source, .int .i64 q.n, .int .i64 q.op.kind, .int .u64 (q.op.n : Int), .string q.op.key, .string q.op.til, .string q.op.value, .int .i64 q.op.level, .int .u64 (q.op.lsn : Int), .slice A q.picks.length cA]] W fun e w' => e = .returned (.bool (mayAct q)) ∧ Below W.heap.size W w' := fun W => refmaya_any q A cA W
            have QM := Lib.hid qm
            have HSO2 := Lib.hid hso
            have QK := Lib.hid qk
            have HPK := Lib.hid hpk
            clear qm hso qk hpk
            have hex : (n < p.size ∧ ¬ (n : Int) < (r.length : Int)) ∨ n = p.size := by omega
            cases hmq : mayAct q
            · have hk2 : ∀ a, actOfT s = some a → ((j + 1 : Nat) : Int) < a.kind := fun a ha => HK1.out a ha (fun hk => by
                have := HSO2.out a ha hk
                rw [this, (actText_of ha).1] at hmq
                cases hmq)
              have HK2 := Lib.hid hk2
              clear hk2
              rcases hex with ⟨hnl, hnr⟩ | rfl
              · obtain rfl := hat hnl
                clear hgo
                go_wp2_with (go_at_call 28; (with_reducible refine (QM.out _).mono ?_); rintro e w5 ⟨rfl, hb5⟩; rw [hmq]; have HX6 := Lib.hid (HXr.out.next hb5))
                go_roundw
                case rel => exact ⟨j + 1, by omega, by go_num, HX6, HK2⟩
                case measure => simp [intOf]; omega
              · clear hgo hat
                go_wp2_with (go_at_call 28; (with_reducible refine (QM.out _).mono ?_); rintro e w5 ⟨rfl, hb5⟩; rw [hmq]; have HX6 := Lib.hid (HXr.out.next hb5))
                go_roundw
                case rel => exact ⟨j + 1, by omega, by go_num, HX6, HK2⟩
                case measure => simp [intOf]; omega
            · have hsm := mayAct_small hmq
              have qt : ∀ W, Env W → PkAt W A q.picks → Calls Tryz.prog 29 #[.agg #[.int .i64 q.kind, .int .i64 q.node, .int .i64 q.source, .int .i64 q.n, .int .i64 q.op.kind, .int .u64 (q.op.n : Int), .string q.op.key, .string q.op.til, .string q.op.value, .int .i64 q.op.level, .int .u64 (q.op.lsn : Int), .slice A q.picks.length cA]] W fun e w' => e = .returned (.string (actText q)) ∧ Below W.heap.size W w' := fun W hW hP => refacttext_in x q QK.out HOK.out hsm (mayAct_op0 hmq x QK.out) A cA W hW hP
              have QT := Lib.hid qt
              clear qt hsm
              cases hts : ((actText q).toList == s.toList)
              · have hk2 : ∀ a, actOfT s = some a → ((j + 1 : Nat) : Int) < a.kind := fun a ha => HK1.out a ha (fun hk => by
                  have := HSO2.out a ha hk
                  rw [this, (actText_of ha).2.1] at hts
                  simp at hts)
                have HK2 := Lib.hid hk2
                clear hk2
                rcases hex with ⟨hnl, hnr⟩ | rfl
                · obtain rfl := hat hnl
                  clear hgo
                  go_wp2_with (first
                    | (go_at_call 28; (with_reducible refine (QM.out _).mono ?_); rintro e w5 ⟨rfl, hb5⟩; rw [hmq]; have HX6 := Lib.hid (HXr.out.next hb5); have HP6 := Lib.hid (HPK.out.below hb5); obtain ⟨g0, g1, g2, g3, g4, g5, g6, g7, g8, g9, g10, g11⟩ := cells12r (HBr.out.next hb5).box)
                    | (go_at_call 29; (with_reducible refine (QT.out _ (henv.below HX6.out.below) HP6.out).mono ?_); rintro e w6 ⟨rfl, hb6⟩; have HX7 := Lib.hid (HX6.out.next hb6)))
                  go_roundw
                  case rel => exact ⟨j + 1, by omega, by go_num, HX7, HK2⟩
                  case measure => simp [intOf]; omega
                · clear hgo hat
                  go_wp2_with (first
                    | (go_at_call 28; (with_reducible refine (QM.out _).mono ?_); rintro e w5 ⟨rfl, hb5⟩; rw [hmq]; have HX6 := Lib.hid (HXr.out.next hb5); have HP6 := Lib.hid (HPK.out.below hb5); obtain ⟨g0, g1, g2, g3, g4, g5, g6, g7, g8, g9, g10, g11⟩ := cells12r (HBr.out.next hb5).box)
                    | (go_at_call 29; (with_reducible refine (QT.out _ (henv.below HX6.out.below) HP6.out).mono ?_); rintro e w6 ⟨rfl, hb6⟩; have HX7 := Lib.hid (HX6.out.next hb6)))
                  go_roundw
                  case rel => exact ⟨j + 1, by omega, by go_num, HX7, HK2⟩
                  case measure => simp [intOf]; omega
              · have hfound : actOfT s = some q := by
                  have e : actText q = s := by
                    have e2 := eq_of_beq hts
                    rw [toList_bs, toList_bs] at e2
                    rw [← txt_bs (actText q), e2, txt_bs]
                  rw [← e]; exact actOfT_text hmq HOK.out
                have HF := Lib.hid hfound
                clear hfound
                rcases hex with ⟨hnl, hnr⟩ | rfl
                · obtain rfl := hat hnl
                  clear hgo
                  go_wp2_with (first
                    | (go_at_call 28; (with_reducible refine (QM.out _).mono ?_); rintro e w5 ⟨rfl, hb5⟩; rw [hmq]; have HX6 := Lib.hid (HXr.out.next hb5); have HB6 := Lib.hid (HBr.out.next hb5); have HP6 := Lib.hid (HPK.out.below hb5); obtain ⟨g0, g1, g2, g3, g4, g5, g6, g7, g8, g9, g10, g11⟩ := cells12r HB6.out.box)
                    | (go_at_call 29; (with_reducible refine (QT.out _ (henv.below HX6.out.below) HP6.out).mono ?_); rintro e w6 ⟨rfl, hb6⟩; have HX7 := Lib.hid (HX6.out.next hb6); have HB7 := Lib.hid (HB6.out.next hb6); obtain ⟨t0, t1, t2, t3, t4, t5, t6, t7, t8, t9, t10, t11⟩ := cells12r HB7.out.box; have hres := HX7.out.res)
                    | (refine wpList_store_row rfl 39 _ _ rfl w.heap.size (actCells q (.slice A q.picks.length cA)).toArray rfl rfl 39 _ hres infoAct rfl (actCells_one _ _ _ _) ?_))
                  refine bodyPost_ret (results_row_tmp rfl _ _ w.heap.size 39 (actCells q (.slice A q.picks.length cA)).toArray (0, 0) _ rfl (hres.set (actCells q (.slice A q.picks.length cA))) Tryz.underlying39 rfl infoAct) rfl ?_
                  refine ⟨raofF_some HF.out ⟨A, cA, rfl, ?_, fun hl => by
                    obtain ⟨g, cap, hv, hbg, _⟩ := OwnI.form HB7.out.own hl
                    injection hv with hv
                    exact ⟨g, 0, hv, by omega⟩⟩, below_setRow HX7.out.below (Nat.le_refl _) _⟩
                  obtain ⟨A', c', e', hp'⟩ := ownI_pk (OwnI.kept HB7.out.own (grownBy_setRow _ w.heap.size (actCells q (.slice A q.picks.length cA)).toArray) (fun i e => by injection e with e; omega))
                  injection e' with e'
                  subst e'
                  exact hp'
                · clear hgo hat
                  go_wp2_with (first
                    | (go_at_call 28; (with_reducible refine (QM.out _).mono ?_); rintro e w5 ⟨rfl, hb5⟩; rw [hmq]; have HX6 := Lib.hid (HXr.out.next hb5); have HB6 := Lib.hid (HBr.out.next hb5); have HP6 := Lib.hid (HPK.out.below hb5); obtain ⟨g0, g1, g2, g3, g4, g5, g6, g7, g8, g9, g10, g11⟩ := cells12r HB6.out.box)
                    | (go_at_call 29; (with_reducible refine (QT.out _ (henv.below HX6.out.below) HP6.out).mono ?_); rintro e w6 ⟨rfl, hb6⟩; have HX7 := Lib.hid (HX6.out.next hb6); have HB7 := Lib.hid (HB6.out.next hb6); obtain ⟨t0, t1, t2, t3, t4, t5, t6, t7, t8, t9, t10, t11⟩ := cells12r HB7.out.box; have hres := HX7.out.res)
                    | (refine wpList_store_row rfl 39 _ _ rfl w.heap.size (actCells q (.slice A q.picks.length cA)).toArray rfl rfl 39 _ hres infoAct rfl (actCells_one _ _ _ _) ?_))
                  refine bodyPost_ret (results_row_tmp rfl _ _ w.heap.size 39 (actCells q (.slice A q.picks.length cA)).toArray (0, 0) _ rfl (hres.set (actCells q (.slice A q.picks.length cA))) Tryz.underlying39 rfl infoAct) rfl ?_
                  refine ⟨raofF_some HF.out ⟨A, cA, rfl, ?_, fun hl => by
                    obtain ⟨g, cap, hv, hbg, _⟩ := OwnI.form HB7.out.own hl
                    injection hv with hv
                    exact ⟨g, 0, hv, by omega⟩⟩, below_setRow HX7.out.below (Nat.le_refl _) _⟩
                  obtain ⟨A', c', e', hp'⟩ := ownI_pk (OwnI.kept HB7.out.own (grownBy_setRow _ w.heap.size (actCells q (.slice A q.picks.length cA)).toArray) (fun i e => by injection e with e; omega))
                  injection e' with e'
                  subst e'
                  exact hp'
    · obtain rfl : j = 12 := by omega
      have hnone : actOfT s = none := by
        cases e : actOfT s with
        | none => rfl
        | some a => have h1 := HK.out a e; have h2 := (actOfT_range e).2; omega
      have HNO := Lib.hid hnone
      have hres := HX.out.res
      clear hnone
      go_wp2_with (refine wpList_store_row rfl 39 _ _ rfl w.heap.size (actCells arZero (.slice none 0 0)).toArray rfl rfl 39 _ hres infoAct rfl (actCells_one _ _ _ _) ?_)
      refine bodyPost_ret (results_row_tmp rfl _ _ w.heap.size 39 (actCells arZero (.slice none 0 0)).toArray (0, 0) _ rfl (hres.set (actCells arZero (.slice none 0 0))) Tryz.underlying39 rfl infoAct) rfl ?_
      exact ⟨raofF_none HNO.out rfl, below_setRow HX.out.below (Nat.le_refl _) _⟩
theorem refaof_any (s : ByteArray) (hs : s.size ≤ 90000) (w : World) (henv : Env w) :
    Calls Tryz.prog 31 #[.string s] w fun e w' => raofR s e w' ∧ Below w.heap.size w w' := (refaof_own s hs w henv).mono fun _ _ ⟨h1, h2⟩ => ⟨raofF_R h1, h2⟩
end Go.Proofs.YtgplaeopcejmoaaGreatDoor
