/- The walks of Word. -/
import Derived.Test.YtgplaeopcejmoaaGreatDoorNat
namespace Go.Proofs.YtgplaeopcejmoaaGreatDoor
open Go.RowKit

/-- a text's bytes -/
abbrev bs (s : ByteArray) : Bs := s.data.toList
def txt (l : Bs) : ByteArray := ⟨l.toArray⟩
theorem bs_txt (l : Bs) : bs (txt l) = l := rfl
theorem txt_bs (s : ByteArray) : txt (bs s) = s := rfl
theorem bs_length (s : ByteArray) : (bs s).length = s.size := by
  rw [bs, Array.length_toList]; rfl
theorem toList_bs (s : ByteArray) : s.toList = bs s := by
  rw [ByteArray.toList_eq]
theorem bs_empty {s : ByteArray} (h : s.toList.isEmpty = true) : bs s = [] := by
  rw [toList_bs] at h; exact List.isEmpty_iff.1 h
theorem bs_not_empty {s : ByteArray} (h : s.toList.isEmpty = false) : bs s ≠ [] := by
  rw [toList_bs] at h; intro e; rw [e] at h; cases h
theorem bs_get {s : ByteArray} {k : Nat} (h : k < s.size) : (bs s)[k]? = some s[k] := by
  have : k < (bs s).length := by rw [bs_length]; exact h
  rw [List.getElem?_eq_getElem this]
  rfl
theorem take_succ_flat {l : Bs} {k : Nat} {c : UInt8} (f : UInt8 → Bs) (h : l[k]? = some c) : (l.take (k + 1)).flatMap f = (l.take k).flatMap f ++ f c := by
  obtain ⟨hl, h⟩ := List.getElem?_eq_some_iff.1 h
  rw [List.take_succ_eq_append_getElem hl, List.flatMap_append, h]
  simp
theorem flat_len (l : Bs) : (l.flatMap wordB).length ≤ 3 * l.length := by
  induction l with
  | nil => simp
  | cons c l ih => rw [List.flatMap_cons, List.length_append, List.length_cons]; have := wordB_length c; omega
theorem flat_take_len (l : Bs) (k : Nat) : ((l.take k).flatMap wordB).length ≤ 3 * l.length := by
  have := flat_len (l.take k)
  rw [List.length_take] at this
  omega

theorem own_below {w w' : World} {base e size n : Nat} {v : Value} {xs : List Value} (h : w.ownsRow base e size v n xs) (hb : Below w.heap.size w w') : w'.ownsRow base e size v n xs :=
  h.kept (grownBy_of_below none hb (Nat.le_refl _)) (by cases hv : v.ownBlock <;> simp)
theorem builderAt_below {T e B b : Nat} {p : Value} {l : List Value} {w w' : World} (h : Lib.BuilderAt T e B b p l w) (hb : Below w.heap.size w w') : Lib.BuilderAt T e B b p l w' := by
  have hlt := h.lt
  obtain ⟨hB, v, h1, h2, h3⟩ := h
  exact ⟨hB, v, (hb.block b hlt).trans h1, own_below h2 hb, h3⟩
theorem builder_below {T e B b : Nat} {l : List Value} {w w' : World} (h : Lib.IsBuilder T e B b l w) (hb : Below w.heap.size w w') : Lib.IsBuilder T e B b l w' := by
  rcases h with h | h
  · exact .inl (builderAt_below h hb)
  · exact .inr (builderAt_below h hb)
theorem byteCells_app (a b : Bs) : Lib.byteCells (a ++ b) = Lib.byteCells a ++ Lib.byteCells b := by simp [Lib.byteCells]

set_option maxRecDepth 100000 in
set_option maxHeartbeats 1000000 in
theorem word_any (s : ByteArray) (hs : s.size ≤ 1000000) (w : World) :
    Calls Tryz.prog 15 #[.string s] w fun e w' => e = .returned (.string (txt (wordL (bs s)))) ∧ Below w.heap.size w w' := by
  have h0 : Lib.IsBuilder 89 5 w.heap.size w.heap.size (Lib.byteCells []) (w.alloc (.cells #[.pointer none, .slice none 0 0] 89)) :=
    .inl ⟨Nat.le_refl _, .slice none 0 0, heap_alloc_new w _, World.ownsRow_nil _ _ _ _, by simp [Value.ownBlock]⟩
  cases he : s.toList.isEmpty
  · have hne := bs_not_empty he
    have HN := Lib.hid hne; clear hne
    go_enter Tryz.func15, Tryz.ntmps15
    go_wp2
    go_loopw [9] (fun i wr => ∃ k : Nat, k ≤ s.size ∧ i = .int .i64 k ∧ Lib.IsBuilder 89 5 w.heap.size w.heap.size (Lib.byteCells (((bs s).take k).flatMap wordB)) wr ∧ Below w.heap.size w wr) (fun i _ => s.size - (intOf i).toNat)
    case atStart => exact ⟨0, by omega, rfl, h0, (Below.refl _ _).alloc (Nat.le_refl _) _⟩
    case round =>
      obtain ⟨k, hk, rfl, hib, hb⟩ := hrel
      have hlen := flat_take_len (bs s) k
      rw [bs_length] at hlen
      by_cases hlt : k < s.size
      · have hc := bs_get hlt
        obtain ⟨c, hcs⟩ : ∃ c : UInt8, s[k] = c := ⟨_, rfl⟩
        rw [hcs] at hc
        have hci : ∀ h, s[k]'h = c := fun _ => hcs
        clear hcs
        have hst := take_succ_flat wordB hc
        have HST := Lib.hid hst; clear hst hc
        have hbl : (Lib.byteCells (((bs s).take k).flatMap wordB)).length ≤ 3000000 := by rw [Lib.byteCells_length]; omega
        have hbs := hb.size
        cases hp : plainB c
        · have hwb : wordB c = 37 :: [hexd (c.toNat / 16), hexd (c.toNat % 16)] := by unfold wordB; rw [hp]; rfl
          have HW := Lib.hid hwb; clear hwb
          go_wp2_with (first
            | (go_at_call 43; refine (plain_any c _).mono ?_; rintro e w' ⟨rfl, rfl⟩)
            | (go_at_call 49; refine (hex_one ⟨wr.heap.size, 0, none⟩ c 1 _ (by exact (Blk.new wr 5 [.int .u8 c.toNat]).cell 0)).mono ?_; rintro e w1 ⟨rfl, hb1⟩
               have hb2 : Below wr.heap.size wr w1 := ((Below.refl wr.heap.size wr).alloc (Nat.le_refl _) _).trans (hb1.mono (by simp))
               have hib1 := builder_below hib hb2)
            | (go_at_call 48; refine (Tryz.Builder_WriteString w.heap.size w.heap.size _ _ _ hib1 (by simp [ByteArray.size]; omega) (by have := hb2.size; omega)).mono ?_; rintro e w2 ⟨rfl, hib2, hb3⟩))
          go_roundw
          case rel =>
            refine ⟨k + 1, by omega, by go_num, .inr ?_, (hb.trans (hb2.mono hbs)).trans hb3⟩
            rw [HST.out, HW.out, byteCells_app]
            have e : (⟨#[37]⟩ ++ ⟨#[hexd (c.toNat / 16), hexd (c.toNat % 16)]⟩ : ByteArray).data.toList = [37, hexd (c.toNat / 16), hexd (c.toNat % 16)] := by simp
            rw [Lib.strCells_eq, e] at hib2
            exact hib2
          case measure => simp [intOf]; omega
        · have hwb : wordB c = [c] := by unfold wordB; rw [hp]; rfl
          have HW := Lib.hid hwb; clear hwb
          go_wp2_with (first
            | (go_at_call 43; refine (plain_any c _).mono ?_; rintro e w' ⟨rfl, rfl⟩)
            | (go_at_call 47; refine (Tryz.Builder_WriteByte w.heap.size w.heap.size _ _ _ hib (by omega) hbs).mono ?_; rintro e w1 ⟨rfl, hib1, hb1⟩))
          go_roundw
          case rel => exact ⟨k + 1, by omega, by go_num, .inr (by rw [HST.out, HW.out, byteCells_app]; exact hib1), hb.trans hb1⟩
          case measure => simp [intOf]; omega
      · obtain rfl : k = s.size := by omega
        have hst : ((bs s).take s.size).flatMap wordB = wordL (bs s) := by
          rw [← bs_length, List.take_length]
          unfold wordL
          rw [if_neg HN.out]
        rw [hst] at hib
        go_wp2_with (go_at_call 50; refine (Tryz.Builder_String_any w.heap.size w.heap.size _ _ hib hb.size).mono ?_; rintro e w1 ⟨rfl, hb1⟩)
        go_ret
        exact ⟨rfl, hb.trans hb1⟩
  · have he' := bs_empty he
    go_enter Tryz.func15, Tryz.ntmps15
    go_wp2
    go_ret
    refine ⟨ret_str ?_, Below.refl _ _⟩
    rw [he']; rfl
end Go.Proofs.YtgplaeopcejmoaaGreatDoor
