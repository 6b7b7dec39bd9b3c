/- The law ScriptSpeech, walked. -/
import Derived.Test.YtgplaeopcejmoaaDoorKnown
import Derived.Test.YtgplaeopcejmoaaDoorRefw
namespace Go.Proofs.YtgplaeopcejmoaaDoor
open Go.RowKit Go.Shelf

theorem word_t (s t : ByteArray) (hs : s.size ≤ 1000000) (ht : txt (wordL (bs s)) = t) (w : World) : Calls Tryd.prog 7 #[.string s] w fun e w' => e = .returned (.string t) ∧ Below w.heap.size w w' :=
  (word_any s hs w).mono fun _ _ ⟨h, hb⟩ => ⟨by rw [h, ht], hb⟩
theorem refword_t (s t : ByteArray) (hs : s.size ≤ 300000) (ht : txt (wordL (bs s)) = t) (w : World) : Calls Tryd.prog 8 #[.string s] w fun e w' => e = .returned (.string t) ∧ Below w.heap.size w w' :=
  (refword_any s hs w).mono fun _ _ ⟨h, hb⟩ => ⟨by rw [h]; exact congrArg (fun x => Ending.returned (.string x)) ht, hb⟩
theorem unword_t (t s : ByteArray) (hs : t.size ≤ 1000000) (ht : unwordL (bs t) = some (bs s)) (w : World) : Calls Tryd.prog 9 #[.string t] w fun e w' => e = .returned (.tuple #[.string s, .int .i64 0]) ∧ Below w.heap.size w w' :=
  (unword_any t hs w).mono fun _ _ ⟨h, hb⟩ => ⟨by rw [ht] at h; exact h, hb⟩
theorem txt_inj {a b : Bs} (h : txt a = txt b) : a = b := by
  have := congrArg bs h
  exact this
theorem word_eq (s o : ByteArray) : ((txt (wordL (bs s))).toList == (txt (wordL (bs o))).toList) = (s.toList == o.toList) := by
  simp only [toList_bs, bs_txt]
  rw [Bool.eq_iff_iff]
  simp only [beq_iff_eq]
  exact ⟨wordL_inj, fun h => by rw [h]⟩
theorem word_cat {s o : ByteArray} (hs : ¬ s.toList = []) (ho : ¬ o.toList = []) : txt (wordL (bs (s ++ o))) = txt (wordL (bs s)) ++ txt (wordL (bs o)) := by
  have e : bs (s ++ o) = bs s ++ bs o := by simp [bs, ByteArray.data_append]
  rw [toList_bs] at hs ho
  rw [e, wordL_append hs ho, cat]
  rfl
theorem word_size (s : ByteArray) : (txt (wordL (bs s))).size ≤ 3 * s.size + 2 := by
  have h := wordL_length (bs s)
  rw [bs_length] at h
  show (wordL (bs s)).toArray.size ≤ _
  rw [List.size_toArray]; exact h
theorem word_at {s t : ByteArray} (ht : txt (wordL (bs s)) = t) (i : Nat) (h : i < t.size) : 33 ≤ (t[i].toNat : Int) ∧ (t[i].toNat : Int) ≤ 126 := by
  have h1 := bs_get h
  have h2 : bs t = wordL (bs s) := by rw [← ht]; rfl
  rw [h2] at h1
  have := wordL_range (List.mem_of_getElem? h1)
  omega

set_option maxRecDepth 100000 in
set_option maxHeartbeats 4000000 in
theorem lawS (s o : ByteArray) (hs : s.size ≤ 9223372036854775807) (ho : o.size ≤ 9223372036854775807) (w : World) (henv : Env w) : Calls Tryd.prog 3 #[.string s, .string o] w fun e w' => e = .returned (.bool true) ∧ Below w.heap.size w w' := by
  by_cases h1 : 9000 < s.size
  · have h1' : 9000 < (s.size : Int) := by omega
    go_enter Tryd.func3, Tryd.ntmps3
    go_wp2_with (go_at_call 6; refine (known_any _ henv).mono ?_; rintro e w1 ⟨rfl, hb⟩)
    go_ret
    exact ⟨rfl, hb⟩
  · by_cases h2 : 9000 < o.size
    · have h1' : ¬ 9000 < (s.size : Int) := by omega
      have h2' : 9000 < (o.size : Int) := by omega
      go_enter Tryd.func3, Tryd.ntmps3
      go_wp2_with (go_at_call 6; refine (known_any _ henv).mono ?_; rintro e w1 ⟨rfl, hb⟩)
      go_ret
      exact ⟨rfl, hb⟩
    · have h1' : ¬ 9000 < (s.size : Int) := by omega
      have h2' : ¬ 9000 < (o.size : Int) := by omega
      obtain ⟨t, ht⟩ : ∃ t, txt (wordL (bs s)) = t := ⟨_, rfl⟩
      obtain ⟨v, hv⟩ : ∃ v, txt (wordL (bs o)) = v := ⟨_, rfl⟩
      have hts : t.size ≤ 27002 := by rw [← ht]; have := word_size s; omega
      have hvs : v.size ≤ 27002 := by rw [← hv]; have := word_size o; omega
      have e1 : (t.toList == []) = false := by
        rw [← ht, toList_bs, bs_txt]
        exact beq_eq_false_iff_ne.2 (wordL_ne _)
      have e2 : (t.toList == v.toList) = (s.toList == o.toList) := by rw [← ht, ← hv]; exact word_eq s o
      have u1 : unwordL (bs t) = some (bs s) := by rw [← ht, bs_txt]; exact unwordL_word _
      have e4 : ¬ s.toList = [] → ¬ o.toList = [] → txt (wordL (bs (s ++ o))) = t ++ v := fun a b => by rw [← ht, ← hv]; exact word_cat a b
      have HT := Lib.hid ht; have HV := Lib.hid hv; have HU := Lib.hid u1
      have H4 := Lib.hid e4
      clear ht hv u1 e4
      have HB := Below.refl w.heap.size w
      go_enter Tryd.func3, Tryd.ntmps3
      go_wp2_with (first
        | (go_at_call 7; (with_reducible refine (word_t s t (by omega) HT.out _).mono ?_); rintro e w1 ⟨rfl, hb⟩; replace HB := HB.trans (hb.mono HB.size); clear hb)
        | (go_at_call 7; (with_reducible refine (word_t o v (by omega) HV.out _).mono ?_); rintro e w2 ⟨rfl, hb⟩; replace HB := HB.trans (hb.mono HB.size); clear hb)
        | (go_at_call 8; (with_reducible refine (refword_t s t (by omega) HT.out _).mono ?_); rintro e w3 ⟨rfl, hb⟩; replace HB := HB.trans (hb.mono HB.size); clear hb)
        | (go_at_call 7; (refine (word_t (s ++ o) (t ++ v) (by rw [ByteArray.size_append]; omega) (H4.out (by assumption) (by assumption)) _).mono ?_); rintro e w4 ⟨rfl, hb⟩; replace HB := HB.trans (hb.mono HB.size); clear hb))
      all_goals
        go_loopw [7] (fun i wr => ∃ k : Nat, k ≤ t.size ∧ i = .int .i64 k ∧ Below w.heap.size w wr) (fun i _ => t.size - (intOf i).toNat)
        case atStart => exact ⟨0, by omega, rfl, HB⟩
        case round =>
          obtain ⟨k, hk, rfl, HB⟩ := hrel
          by_cases hlt : k < t.size
          · obtain ⟨h33, h126⟩ := word_at HT.out k hlt
            obtain ⟨c, hcs⟩ : ∃ c : UInt8, t[k] = c := ⟨_, rfl⟩
            rw [hcs] at h33 h126
            have hci : ∀ h, t[k]'h = c := fun _ => hcs
            clear hcs
            go_wp2
            go_roundw
            case rel => exact ⟨k + 1, by omega, by go_num, HB⟩
            case measure => simp [intOf]; omega
          · obtain rfl : k = t.size := by omega
            have hen := henv.below HB
            go_wp2_with (first
              | (go_at_call 9; (with_reducible refine (unword_t t s (by omega) HU.out _).mono ?_); rintro e w5 ⟨rfl, hb⟩; replace HB := HB.trans (hb.mono HB.size); clear hb)
              | (go_at_call 10; refine (num_any _ _).mono ?_; rintro e wq ⟨rfl, rfl⟩)
              | (go_at_call 6; refine (known_any _ (henv.below HB)).mono ?_; rintro e w6 ⟨rfl, hb⟩; replace HB := HB.trans (hb.mono HB.size); clear hb))
            go_ret
            exact ⟨rfl, HB⟩
end Go.Proofs.YtgplaeopcejmoaaDoor
