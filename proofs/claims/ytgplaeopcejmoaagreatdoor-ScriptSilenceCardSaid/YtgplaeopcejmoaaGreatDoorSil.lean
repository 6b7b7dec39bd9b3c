/- The law ScriptSilence, walked. -/
import Derived.Test.YtgplaeopcejmoaaGreatDoorKnown
import Derived.Test.YtgplaeopcejmoaaGreatDoorRunw
namespace Go.Proofs.YtgplaeopcejmoaaGreatDoor
open Go.RowKit Go.Shelf

theorem un_n (s : ByteArray) (hs : s.size ≤ 1000000) (hu : unwordL (bs s) = none) (w : World) : Calls Tryz.prog 12 #[.string s] w fun e w' => e = .returned (.tuple #[.string ⟨#[]⟩, .int .i64 4]) ∧ Below w.heap.size w w' :=
  (unword_any s hs w).mono fun _ _ ⟨h, hb⟩ => ⟨by rw [hu] at h; exact h, hb⟩
theorem un_s (s t : ByteArray) (hs : s.size ≤ 1000000) (hu : unwordL (bs s) = some (bs t)) (w : World) : Calls Tryz.prog 12 #[.string s] w fun e w' => e = .returned (.tuple #[.string t, .int .i64 0]) ∧ Below w.heap.size w w' :=
  (unword_any s hs w).mono fun _ _ ⟨h, hb⟩ => ⟨by rw [hu] at h; exact h, hb⟩
theorem run_n (s : ByteArray) (hs : s.size ≤ 100000) (hu : unwordL (bs s) = none) (w : World) : Calls Tryz.prog 13 #[.string s] w fun e w' => (∃ o, e = .returned (.tuple #[.string o, .bool false])) ∧ Below w.heap.size w w' :=
  (refunword_any s hs w).mono fun _ _ ⟨⟨o, b, he, h1, h2⟩, hb⟩ => ⟨by
    cases b with
    | true => rw [hu] at h1; exact absurd (h1 rfl) (by simp)
    | false => exact ⟨o, he⟩, hb⟩
theorem run_s (s t : ByteArray) (hs : s.size ≤ 100000) (hu : unwordL (bs s) = some (bs t)) (w : World) : Calls Tryz.prog 13 #[.string s] w fun e w' => e = .returned (.tuple #[.string t, .bool true]) ∧ Below w.heap.size w w' :=
  (refunword_any s hs w).mono fun _ _ ⟨⟨o, b, he, h1, h2⟩, hb⟩ => ⟨by
    cases b with
    | true =>
      have h3 := h1 rfl
      rw [hu] at h3
      have h4 : bs o = bs t := (Option.some.inj h3).symm
      have h5 : o = t := (txt_eq h4).trans (txt_eq rfl).symm
      rw [he, h5]
    | false => rw [hu] at h2; exact absurd (h2 rfl) (by simp), hb⟩
theorem word_t (s t : ByteArray) (hs : s.size ≤ 1000000) (ht : txt (wordL (bs s)) = t) (w : World) : Calls Tryz.prog 15 #[.string s] w fun e w' => e = .returned (.string t) ∧ Below w.heap.size w w' :=
  (word_any s hs w).mono fun _ _ ⟨h, hb⟩ => ⟨by rw [h, ht], hb⟩

set_option maxRecDepth 100000 in
set_option maxHeartbeats 4000000 in
theorem lawSil (s : ByteArray) (hs : s.size ≤ 9223372036854775807) (w : World) (henv : Env w) : Calls Tryz.prog 3 #[.string s] w fun e w' => e = .returned (.bool true) ∧ Below w.heap.size w w' := by
  have HB := Below.refl w.heap.size w
  by_cases h1 : 9000 < s.size
  · have h1' : 9000 < (s.size : Int) := by omega
    go_enter Tryz.func3, Tryz.ntmps3
    go_wp2_with (go_at_call 11; refine (known_any _ henv).mono ?_; rintro e w1 ⟨rfl, hb⟩)
    go_ret
    exact ⟨rfl, hb⟩
  · have h1' : ¬ 9000 < (s.size : Int) := by omega
    cases hu : unwordL (bs s) with
    | none =>
      go_enter Tryz.func3, Tryz.ntmps3
      go_wp2_with (first
        | (go_at_call 12; (with_reducible refine (un_n s (by omega) hu _).mono ?_); rintro e w1 ⟨rfl, hb⟩; replace HB := HB.trans (hb.mono HB.size); clear hb)
        | (go_at_call 13; (with_reducible refine (run_n s (by omega) hu _).mono ?_); rintro e w2 ⟨⟨o, rfl⟩, hb⟩; replace HB := HB.trans (hb.mono HB.size); clear hb)
        | (go_at_call 14; refine (num_any _ _).mono ?_; rintro e wq ⟨rfl, rfl⟩)
        | (go_at_call 11; refine (known_any _ (henv.below HB)).mono ?_; rintro e w3 ⟨rfl, hb⟩; replace HB := HB.trans (hb.mono HB.size); clear hb))
      go_ret
      exact ⟨rfl, HB⟩
    | some l =>
      have hwl := wordL_unword hu
      obtain ⟨t, ht⟩ : ∃ t, bs t = l := ⟨txt l, rfl⟩
      have hw : txt (wordL (bs t)) = s := by rw [ht, hwl]; exact (txt_eq rfl).symm
      have hl : l.length ≤ (bs s).length := by
        rw [← hwl]
        unfold wordL
        split
        · rename_i e; rw [e]; simp
        · clear hw ht hwl hu
          induction l with
          | nil => simp
          | cons c l ih =>
            rw [List.flatMap_cons, List.length_append, List.length_cons]
            have := List.length_pos_iff.2 (wordB_ne c)
            by_cases e : l = []
            · subst e; simp; omega
            · have := ih e; omega
      have hts : t.size ≤ 1000000 := by rw [← bs_length, ht]; rw [bs_length] at hl; omega
      rw [← ht] at hu
      have HU := Lib.hid hu; have HW := Lib.hid hw
      clear hu hw hwl hl ht
      have hss : (s.toList == s.toList) = true := by simp
      have htt : (t.toList == t.toList) = true := by simp
      go_enter Tryz.func3, Tryz.ntmps3
      go_wp2_with (first
        | (go_at_call 12; (with_reducible refine (un_s s t (by omega) HU.out _).mono ?_); rintro e w1 ⟨rfl, hb⟩; replace HB := HB.trans (hb.mono HB.size); clear hb)
        | (go_at_call 13; (with_reducible refine (run_s s t (by omega) HU.out _).mono ?_); rintro e w2 ⟨rfl, hb⟩; replace HB := HB.trans (hb.mono HB.size); clear hb)
        | (go_at_call 14; refine (num_any _ _).mono ?_; rintro e wq ⟨rfl, rfl⟩)
        | (go_at_call 15; (with_reducible refine (word_t t s (by omega) HW.out _).mono ?_); rintro e w4 ⟨rfl, hb⟩; replace HB := HB.trans (hb.mono HB.size); clear hb)
        | (go_at_call 11; refine (known_any _ (henv.below HB)).mono ?_; rintro e w3 ⟨rfl, hb⟩; replace HB := HB.trans (hb.mono HB.size); clear hb))
      go_ret
      exact ⟨rfl, HB⟩
end Go.Proofs.YtgplaeopcejmoaaGreatDoor
