/- The walks of cmp.Compare, of the closure in find, of the search by halves, and of find. -/
import Derived.Test.YtjgkiecepjlheaaRows
import Derived.Test.YtjgkiecepjlheaaPlain
import Derived.WalkKit
import Derived.WalkSpells
import Derived.WalkLawsBesides
import Derived.Lib.Hide
namespace Go.Proofs.Ytjgkiecepjlheaa
open Go.RowKit

def cmpB (a b : ByteArray) : Int := if ltB a b then -1 else if eqB a b then 0 else 1
theorem cmpB_bd (a b : ByteArray) : -1 ≤ cmpB a b ∧ cmpB a b ≤ 1 := by
  unfold cmpB; split
  · omega
  · split <;> omega
theorem cmpB_lt {a b : ByteArray} : cmpB a b < 0 ↔ ltB a b = true := by
  unfold cmpB
  cases ltB a b <;> simp
  split <;> omega
theorem cmpB_eq {a b : ByteArray} : cmpB a b = 0 ↔ a = b := by
  unfold cmpB
  cases h : ltB a b
  · simp only [Bool.false_eq_true, if_false]
    rw [← eqB_iff]
    cases eqB a b <;> simp
  · simp only [if_true]
    constructor
    · intro h'; omega
    · rintro rfl; rw [ltB_irrefl] at h; cases h

theorem ret_int {k : IntKind} {a b : Int} (h : a = b) : Ending.returned (.int k a) = .returned (.int k b) := by rw [h]

theorem cmpB_of {a b : ByteArray} {x y : Bool} (hx : Op.bytesLess a.toList b.toList = x) (hy : (a.toList == b.toList) = y) : cmpB a b = if x then -1 else if y then 0 else 1 := by
  unfold cmpB ltB eqB; rw [hx, hy]

set_option maxHeartbeats 400000 in
theorem cmp_any (a b : ByteArray) (w : World) :
    Calls Try.prog 26 #[.string a, .string b] w fun e w' => w = w' ∧ e = .returned (.int .i64 (cmpB a b)) := by
  cases hx : Op.bytesLess a.toList b.toList
  · cases hy : a.toList == b.toList
    · have h := cmpB_of hx hy
      have H := Lib.hid h; clear h
      go_enter Try.func26, Try.ntmps26
      go_wp2
      go_ret
      exact ⟨rfl, ret_int H.out.symm⟩
    · have h := cmpB_of hx hy
      have H := Lib.hid h; clear h
      go_enter Try.func26, Try.ntmps26
      go_wp2
      go_ret
      exact ⟨rfl, ret_int H.out.symm⟩
  · have h := cmpB_of hx rfl
    have H := Lib.hid h; clear h
    go_enter Try.func26, Try.ntmps26
    go_wp2
    go_ret
    exact ⟨rfl, ret_int H.out.symm⟩

set_option maxHeartbeats 400000 in
theorem clos_any (k v key : ByteArray) (w : World) :
    Calls Try.prog 25 #[.agg #[.string k, .string v], .string key] w fun e w' => e = .returned (.int .i64 (cmpB k key)) ∧ Below w.heap.size w w' := by
  go_enter Try.func25, Try.ntmps25
  go_wp2_with (go_at_call 26; refine (cmp_any _ _ _).mono ?_; rintro e w' ⟨rfl, rfl⟩)
  go_ret
  exact ⟨rfl, (Below.refl _ _).alloc (Nat.le_refl _) _⟩

/-- a slice of pairs that reads as a list, below block B -/
def Tb (w : World) (B : Nat) (A : Option Addr) (n : Nat) (ps : List Pr) : Prop :=
  ps.length = n ∧ (0 < n → ∃ b o, A = some ⟨b, o, none⟩ ∧ b < B ∧ ∀ k p, ps[k]? = some p → w.cell? ⟨b, o + k * 2, none⟩ = some (.string p.1) ∧ w.cell? ⟨b, o + k * 2 + 1, none⟩ = some (.string p.2))

theorem Tb.keep {w w' : World} {B n : Nat} {A : Option Addr} {ps : List Pr} (h : Tb w B A n ps) (hk : ∀ p : Addr, p.block < B → w'.cell? p = w.cell? p) : Tb w' B A n ps :=
  ⟨h.1, fun hn => by
    obtain ⟨b, o, e, hb, hc⟩ := h.2 hn
    exact ⟨b, o, e, hb, fun k p hp => ⟨(hk _ hb).trans (hc k p hp).1, (hk _ hb).trans (hc k p hp).2⟩⟩⟩
theorem Tb.below {w w' : World} {B n : Nat} {A : Option Addr} {ps : List Pr} (h : Tb w B A n ps) (hb : Below B w w') : Tb w' B A n ps := h.keep fun _ hp => hb.cell hp
theorem Tb.more {w : World} {B B' n : Nat} {A : Option Addr} {ps : List Pr} (h : Tb w B A n ps) (hB : B ≤ B') : Tb w B' A n ps :=
  ⟨h.1, fun hn => by
    obtain ⟨b, o, e, hb, hc⟩ := h.2 hn
    exact ⟨b, o, e, by omega, hc⟩⟩

/-- what the search finds -/
def searchR (t : List Pr) (k : ByteArray) (e : Ending) : Prop := e = .returned (.tuple #[.int .i64 (pos t k), .bool (hasT t k)])

theorem hasT_of_cmp {t : List Pr} {k : ByteArray} {i : Nat} {p : Pr} (h : pos t k = i) (hp : t[i]? = some p) : hasT t k = (cmpB p.1 k == 0) := by
  subst h
  cases e : hasT t k
  · have : ¬ cmpB p.1 k = 0 := fun x => by
      have := hasT_iff.2 ⟨p, hp, cmpB_eq.1 x⟩
      rw [e] at this; cases this
    simp [this]
  · obtain ⟨q, hq, hk⟩ := hasT_iff.1 e
    rw [hp] at hq; cases hq
    simp [cmpB_eq.2 hk]
theorem hasT_end {t : List Pr} {k : ByteArray} (h : pos t k = t.length) : hasT t k = false := by
  cases e : hasT t k
  · rfl
  · obtain ⟨q, hq, _⟩ := hasT_iff.1 e
    have := (List.getElem?_eq_some_iff.1 hq).1
    omega

set_option maxHeartbeats 400000 in
theorem search_any (A : Option Addr) (n c : Nat) (ps : List Pr) (key : ByteArray) (w : World) (hn : n ≤ 1000000) (ht : Tb w w.heap.size A n ps) (hs : Srt ps) :
    Calls Try.prog 24 #[.slice A n c, .string key, .func (.func 25) #[] #[]] w fun e w' => searchR ps key e ∧ Below w.heap.size w w' := by
  have hl := ht.1
  go_enter Try.func24, Try.ntmps24
  go_wp2
  go_loopw [9, 10] (fun x y wr => ∃ i j : Nat, i ≤ j ∧ j ≤ n ∧ x = .int .i64 i ∧ y = .int .i64 j ∧ Below w.heap.size w wr ∧ (∀ m p, m < i → ps[m]? = some p → ltB p.1 key = true) ∧ (∀ m p, j ≤ m → ps[m]? = some p → ltB p.1 key = false)) (fun x y _ => (intOf y - intOf x).toNat)
  case atStart => exact ⟨0, n, by omega, by omega, rfl, rfl, Below.refl _ _, fun _ _ h => by omega, fun m p h hp => by have := (List.getElem?_eq_some_iff.1 hp).1; omega⟩
  case round =>
    obtain ⟨i, j, hij, hj, rfl, rfl, hb, hlo, hhi⟩ := hrel
    have HLO := Lib.hid hlo; clear hlo
    have HHI := Lib.hid hhi; clear hhi
    have HL := Lib.hid hl; clear hl
    by_cases hlt : i < j
    · obtain ⟨b, o, rfl, hbw, hc⟩ := (ht.below hb).2 (by omega)
      have hml : (i + j) / 2 < ps.length := by rw [HL.out]; omega
      obtain ⟨⟨k, v⟩, hp⟩ : ∃ p, ps[(i + j) / 2]? = some p := ⟨_, List.getElem?_eq_getElem hml⟩
      obtain ⟨hc1, hc2⟩ := hc _ _ hp
      have HP := Lib.hid hp; clear hp hc
      have hcb := cmpB_bd k key
      simp only at hc1 hc2
      cases hlk : ltB k key
      · have hge : ¬ cmpB k key < 0 := fun x => by rw [cmpB_lt.1 x] at hlk; cases hlk
        have HK := Lib.hid hlk; clear hlk
        go_wp2_with (go_at_call 25; refine (clos_any _ _ _ _).mono ?_; rintro e w' ⟨rfl, hb1⟩)
        go_roundw
        case rel =>
          refine ⟨i, (i + j) / 2, by omega, by omega, rfl, by go_num, hb.trans (hb1.mono hb.size), HLO.out, fun m p hm hp => ?_⟩
          exact not_lt_behind hs hm HP.out HK.out hp
        case measure => simp [intOf]; omega
      · have hge : cmpB k key < 0 := cmpB_lt.2 hlk
        have HK := Lib.hid hlk; clear hlk
        go_wp2_with (go_at_call 25; refine (clos_any _ _ _ _).mono ?_; rintro e w' ⟨rfl, hb1⟩)
        go_roundw
        case rel =>
          refine ⟨(i + j) / 2 + 1, j, by omega, by omega, by go_num, rfl, hb.trans (hb1.mono hb.size), fun m p hm hp => ?_, HHI.out⟩
          exact lt_ahead hs (by omega) HP.out HK.out hp
        case measure => simp [intOf]; omega
    · obtain rfl : i = j := by omega
      have hpos : pos ps key = i := pos_of (by rw [HL.out]; omega) (fun m p h hp => HLO.out m p h hp) (fun p hp => HHI.out i p (Nat.le_refl _) hp)
      by_cases hin : i < n
      · obtain ⟨b, o, rfl, hbw, hc⟩ := (ht.below hb).2 (by omega)
        obtain ⟨⟨k, v⟩, hp⟩ : ∃ p, ps[i]? = some p := ⟨_, List.getElem?_eq_getElem (by rw [HL.out]; omega)⟩
        obtain ⟨hc1, hc2⟩ := hc _ _ hp
        simp only at hc1 hc2
        have hh := hasT_of_cmp hpos hp
        have HP := Lib.hid hp; clear hp hc
        have HS := Lib.hid hpos; clear hpos
        have HH := Lib.hid hh; clear hh
        go_wp2_with (go_at_call 25; refine (clos_any _ _ _ _).mono ?_; rintro e w' ⟨rfl, hb1⟩)
        go_ret2
        refine ⟨?_, hb.trans (hb1.mono hb.size)⟩
        unfold searchR
        rw [HS.out, HH.out]
        rfl
      · have hh := hasT_end (t := ps) (k := key) (by rw [HL.out, hpos]; omega)
        have HS := Lib.hid hpos; clear hpos
        have HH := Lib.hid hh; clear hh
        go_wp2
        go_ret2
        refine ⟨?_, hb⟩
        unfold searchR
        rw [HS.out, HH.out]
        rfl

set_option maxHeartbeats 400000 in
theorem find_any (A : Option Addr) (n c : Nat) (ps : List Pr) (key : ByteArray) (w : World) (hn : n ≤ 1000000) (ht : Tb w w.heap.size A n ps) (hs : Srt ps) :
    Calls Try.prog 20 #[.slice A n c, .string key] w fun e w' => searchR ps key e ∧ Below w.heap.size w w' := by
  go_enter Try.func20, Try.ntmps20
  go_wp2_with (go_at_call 24; refine (search_any _ _ _ ps _ _ hn ht hs).mono ?_; rintro e w' ⟨he, hb1⟩; unfold searchR at he; subst he)
  go_ret2
  exact ⟨rfl, hb1⟩

end Go.Proofs.Ytjgkiecepjlheaa
