/- What the laws take of memory beyond the arguments; numbers' texts: FormatUint, natural, Itoa. The walks of Word. -/
import Derived.Test.YtgplaeopcejmoaaGreatDoorShelf
import Derived.Test.YtgplaeopcejmoaaGreatDoorUnhexa
import Derived.Lib.AppendIntMem
import Derived.BigCall
import Derived.BigGuard
namespace Go.Proofs.YtgplaeopcejmoaaGreatDoor
open Go.RowKit Go.Sort

/-- what the calls read of the library's variables -/
structure Env (w : World) : Prop where
  tab : Lib.TabIs Tryz.prog w "internal/strconv.uint64pow10" .u64 Lib.pow10Tab
  mxl : ∃ m, w.cell? ⟨0, 0, none⟩ = some (.int .i64 m)
  syn : ∃ tp p, w.var? Tryz.prog "strconv.ErrSyntax" = some #[.iface tp p]
  rng : ∃ tp p, w.var? Tryz.prog "strconv.ErrRange" = some #[.iface tp p]

theorem var_lt {P : Program} {w : World} {s : String} {cs : Array Value} (h : w.var? P s = some cs) : ∃ g, P.globalNamed s = some g ∧ g < w.heap.size := by
  unfold World.var? at h
  cases hg : P.globalNamed s with
  | none => simp [hg] at h
  | some g =>
    refine ⟨g, rfl, ?_⟩
    simp only [hg, Option.bind_some] at h
    rcases Nat.lt_or_ge g w.heap.size with h' | h'
    · exact h'
    · rw [Array.getElem?_eq_none h'] at h; simp at h
theorem var_below {P : Program} {w w' : World} {s : String} {cs : Array Value} (h : w.var? P s = some cs) (hb : Below w.heap.size w w') : w'.var? P s = some cs := by
  obtain ⟨g, hg, hlt⟩ := var_lt h
  have := hb.block g hlt
  unfold World.var? at h ⊢
  rw [hg] at h ⊢
  simp only [Option.bind_some] at h ⊢
  rw [this]; exact h
theorem tab_below {w w' : World} {s : String} {k : IntKind} {zs : List Int} (h : Lib.TabIs Tryz.prog w s k zs) (hb : Below w.heap.size w w') : Lib.TabIs Tryz.prog w' s k zs :=
  var_below h hb
theorem Env.below {w w' : World} (h : Env w) (hb : Below w.heap.size w w') : Env w' := by
  obtain ⟨m, hm⟩ := h.mxl
  obtain ⟨t1, p1, h1⟩ := h.syn
  obtain ⟨t2, p2, h2⟩ := h.rng
  exact ⟨tab_below h.tab hb, ⟨m, (hb.cell (cell_lt hm)).trans hm⟩, ⟨t1, p1, var_below h1 hb⟩, ⟨t2, p2, var_below h2 hb⟩⟩

theorem holds_zero0 (w : World) (T : TypeId) (nd : Nat) (hs : nd ≤ 24) : Holds (fun (b : UInt8) => Value.int .u8 (b.toNat : Int)) (w.alloc (.cells Lib.zeros24 T)) w.heap.size 0 (Array.replicate nd (0 : UInt8)) := fun j hj => by
  have hj' : j < nd := by simpa using hj
  refine ⟨?_, World.frozen?_alloc_new _ _ _ _⟩
  rw [World.cell?_alloc_new, Lib.zeros24_at _ (by omega), getElem!_pos _ j hj]
  simp
theorem fin_pos0 (w : World) (o : Obj) (dk : Array UInt8) (k : Nat) : Below w.heap.size w ((putRow (fun (b : UInt8) => Value.int .u8 (b.toNat : Int)) (w.alloc o) w.heap.size 0 dk).drewN k) := by
  rw [alloc_eq_grow]
  obtain ⟨os', _, e⟩ := putRow_grow_new (fun (b : UInt8) => Value.int .u8 (b.toNat : Int)) w #[o] w.heap.size 0 dk (Nat.le_refl _)
  rw [e]
  exact below_drewN (Lib.below_grow w.heap.size w (Nat.le_refl _) 0 os') k

set_option maxHeartbeats 6400000 in
set_option maxRecDepth 100000 in
theorem formatUint_any (u : Nat) (hu64 : u < 18446744073709551616) (w : World) (htab : Lib.TabIs Tryz.prog w "internal/strconv.uint64pow10" .u64 Lib.pow10Tab) :
    Calls Tryz.prog 105 #[.int .u64 u, .int .i64 10] w fun e w' => e = .returned (.string ⟨(Lib.decDigits u).toArray⟩) ∧ Below w.heap.size w w' := by
  by_cases hs : u < 100
  · have hwr : IntKind.i64.wrap (u : Int) = u := by rw [IntKind.wrap_i64]; omega
    go_enter Tryz.func105, Tryz.ntmps105
    go_wp2_with (go_at_call 113; refine (Tryz.internal_strconv_small u hs _).mono ?_; rintro e w' ⟨rfl, rfl⟩)
    go_ret
    exact ⟨rfl, Below.refl _ _⟩
  · have hu1 : 1 ≤ u := by omega
    have hnd20 : Lib.nDigits u ≤ 20 := by have := Lib.numDigits_eq u hu1 hu64; split at this <;> omega
    have hal : Tryz.prog.arrayLen 160 = 24 := by kernel_rfl
    have hsl1 : ∀ W, (Instr.sliceAt 160 (.pointer (some ⟨w.heap.size, 0, none⟩)) none (some (.int .i64 (Lib.nDigits u : Int))) none).run Tryz.prog W = .ok (.slice (some ⟨w.heap.size, 0, none⟩) (Lib.nDigits u) 24) W := fun W => by
      rw [run_sliceAt_array_h W 160 ⟨w.heap.size, 0, none⟩ (by kernel_rfl) .i64 (Lib.nDigits u : Int) (by omega) (by rw [hal]; omega)]
      have hel : Tryz.prog.elem 160 = 5 := by kernel_rfl
      rw [hel, hal, Tryz.sizeOf5]
      simp [Result.andThen, slicedAt, Addr.add]
    have hH0 := holds_zero0 w 160 (Lib.nDigits u) (by omega)
    have hfmt := Tryz.internal_strconv_formatBase10 w.heap.size 0 24 u (Array.replicate (Lib.nDigits u) 0) (w.alloc (.cells Lib.zeros24 160)) hH0 (by rw [Array.size_replicate]; exact Lib.lt_pow_nDigits u) hu64 (by rw [Array.size_replicate]; omega)
    rw [Array.size_replicate] at hfmt
    have HH0 := Lib.hid hH0
    clear hH0 hal
    go_enter Tryz.func105, Tryz.ntmps105
    go_wp2_with (first
      | (go_at_call 114; refine (Tryz.internal_strconv_numDigits u hu1 hu64 _ (Lib.tabIs_alloc htab _)).mono ?_; rintro e w' ⟨rfl, rfl⟩)
      | (go_at_call 115; refine hfmt.mono ?_; rintro e w' ⟨rfl, k, v', dk, rfl, hF⟩
         have hcv : (convert 77 9 (.slice (some ⟨w.heap.size, 0, none⟩) (Lib.nDigits u) 24)).run Tryz.prog ((putRow (fun (b : UInt8) => Value.int .u8 (b.toNat : Int)) (w.alloc (.cells Lib.zeros24 160)) w.heap.size 0 dk).drewN k) = .ok (.string ⟨(Lib.decDigits u).toArray⟩) ((putRow (fun (b : UInt8) => Value.int .u8 (b.toNat : Int)) (w.alloc (.cells Lib.zeros24 160)) w.heap.size 0 dk).drewN k) := by
           have h := run_convert_bytes_back (P := Tryz.prog) ((putRow (fun (b : UInt8) => Value.int .u8 (b.toNat : Int)) (w.alloc (.cells Lib.zeros24 160)) w.heap.size 0 dk).drewN k) 77 9 5 ⟨w.heap.size, 0, none⟩ 24 (Lib.decDigits u) Tryz.underlying77 Tryz.underlying5 Tryz.underlying9 (fun j hj => by
             rw [Lib.row_is_numeral hF j hj, Lib.add_plain, World.cell?_drewN]
             exact cell?_putRow (fun (b : UInt8) => Value.int .u8 (b.toNat : Int)) _ w.heap.size 0 _ dk HH0.out (by rw [hF.size, Array.size_replicate]) j (by rw [hF.size]; rw [Lib.decDigits_length] at hj; exact hj))
           rw [Lib.decDigits_length] at h
           exact h))
    go_ret
    exact ⟨rfl, fin_pos0 w _ dk k⟩

theorem fmtU (u : Nat) (hu64 : u < 18446744073709551616) (w : World) (htab : Lib.TabIs Tryz.prog w "internal/strconv.uint64pow10" .u64 Lib.pow10Tab) :
    Calls Tryz.prog 91 #[.int .u64 u, .int .i64 10] w fun e w' => e = .returned (.string ⟨(Lib.decDigits u).toArray⟩) ∧ Below w.heap.size w w' := by
  go_enter Tryz.func91, Tryz.ntmps91
  go_wp2_with (go_at_call 105; refine (formatUint_any u hu64 _ htab).mono ?_; rintro e w' ⟨rfl, hb⟩)
  go_ret
  exact ⟨rfl, hb⟩

theorem natural_any (u : Nat) (hu64 : u < 18446744073709551616) (w : World) (henv : Env w) :
    Calls Tryz.prog 54 #[.int .u64 u] w fun e w' => e = .returned (.string ⟨(Lib.decDigits u).toArray⟩) ∧ Below w.heap.size w w' := by
  go_enter Tryz.func54, Tryz.ntmps54
  go_wp2_with (go_at_call 91; refine (fmtU u hu64 _ henv.tab).mono ?_; rintro e w' ⟨rfl, hb⟩)
  go_ret
  exact ⟨rfl, hb⟩

theorem itoa_any (n : Int) (h0 : -9223372036854775808 ≤ n) (h1 : n ≤ 9223372036854775807) (w : World) (henv : Env w) :
    Calls Tryz.prog 55 #[.int .i64 n] w fun e w' => e = .returned (.string ⟨(Lib.itoa n).toArray⟩) ∧ Below w.heap.size w w' :=
  (Tryz.strconv_Itoa n h0 h1 w henv.tab).mono fun _ _ ⟨he, k, os, hw⟩ => ⟨he, by rw [hw]; exact Lib.below_grow _ _ (Nat.le_refl _) k os⟩
end Go.Proofs.YtgplaeopcejmoaaGreatDoor
namespace Go.Proofs.YtgplaeopcejmoaaGreatDoor
open Go.RowKit

/-- a text's bytes -/
abbrev bs (s : ByteArray) : Bs := s.data.toList
def txt (l : Bs) : ByteArray := ⟨l.toArray⟩
theorem bs_txt (l : Bs) : bs (txt l) = l := rfl
theorem txt_bs (s : ByteArray) : txt (bs s) = s := rfl
theorem bs_length (s : ByteArray) : (bs s).length = s.size := by
  rw [bs, Array.length_toList]; rfl
theorem toList_bs (s : ByteArray) : s.toList = bs s := by
  rw [ByteArray.toList_eq]
theorem bs_empty {s : ByteArray} (h : s.toList.isEmpty = true) : bs s = [] := by
  rw [toList_bs] at h; exact List.isEmpty_iff.1 h
theorem bs_not_empty {s : ByteArray} (h : s.toList.isEmpty = false) : bs s ≠ [] := by
  rw [toList_bs] at h; intro e; rw [e] at h; cases h
theorem bs_get {s : ByteArray} {k : Nat} (h : k < s.size) : (bs s)[k]? = some s[k] := by
  have : k < (bs s).length := by rw [bs_length]; exact h
  rw [List.getElem?_eq_getElem this]
  rfl
theorem take_succ_flat {l : Bs} {k : Nat} {c : UInt8} (f : UInt8 → Bs) (h : l[k]? = some c) : (l.take (k + 1)).flatMap f = (l.take k).flatMap f ++ f c := by
  obtain ⟨hl, h⟩ := List.getElem?_eq_some_iff.1 h
  rw [List.take_succ_eq_append_getElem hl, List.flatMap_append, h]
  simp
theorem flat_len (l : Bs) : (l.flatMap wordB).length ≤ 3 * l.length := by
  induction l with
  | nil => simp
  | cons c l ih => rw [List.flatMap_cons, List.length_append, List.length_cons]; have := wordB_length c; omega
theorem flat_take_len (l : Bs) (k : Nat) : ((l.take k).flatMap wordB).length ≤ 3 * l.length := by
  have := flat_len (l.take k)
  rw [List.length_take] at this
  omega

theorem own_below {w w' : World} {base e size n : Nat} {v : Value} {xs : List Value} (h : w.ownsRow base e size v n xs) (hb : Below w.heap.size w w') : w'.ownsRow base e size v n xs :=
  h.kept (grownBy_of_below none hb (Nat.le_refl _)) (by cases hv : v.ownBlock <;> simp)
theorem builderAt_below {T e B b : Nat} {p : Value} {l : List Value} {w w' : World} (h : Lib.BuilderAt T e B b p l w) (hb : Below w.heap.size w w') : Lib.BuilderAt T e B b p l w' := by
  have hlt := h.lt
  obtain ⟨hB, v, h1, h2, h3⟩ := h
  exact ⟨hB, v, (hb.block b hlt).trans h1, own_below h2 hb, h3⟩
theorem builder_below {T e B b : Nat} {l : List Value} {w w' : World} (h : Lib.IsBuilder T e B b l w) (hb : Below w.heap.size w w') : Lib.IsBuilder T e B b l w' := by
  rcases h with h | h
  · exact .inl (builderAt_below h hb)
  · exact .inr (builderAt_below h hb)
theorem byteCells_app (a b : Bs) : Lib.byteCells (a ++ b) = Lib.byteCells a ++ Lib.byteCells b := by simp [Lib.byteCells]

set_option maxRecDepth 100000 in
set_option maxHeartbeats 1000000 in
theorem word_any (s : ByteArray) (hs : s.size ≤ 1000000) (w : World) :
    Calls Tryz.prog 15 #[.string s] w fun e w' => e = .returned (.string (txt (wordL (bs s)))) ∧ Below w.heap.size w w' := by
  have h0 : Lib.IsBuilder 89 5 w.heap.size w.heap.size (Lib.byteCells []) (w.alloc (.cells #[.pointer none, .slice none 0 0] 89)) :=
    .inl ⟨Nat.le_refl _, .slice none 0 0, heap_alloc_new w _, World.ownsRow_nil _ _ _ _, by simp [Value.ownBlock]⟩
  cases he : s.toList.isEmpty
  · have hne := bs_not_empty he
    have HN := Lib.hid hne; clear hne
    go_enter Tryz.func15, Tryz.ntmps15
    go_wp2
    go_loopw [9] (fun i wr => ∃ k : Nat, k ≤ s.size ∧ i = .int .i64 k ∧ Lib.IsBuilder 89 5 w.heap.size w.heap.size (Lib.byteCells (((bs s).take k).flatMap wordB)) wr ∧ Below w.heap.size w wr) (fun i _ => s.size - (intOf i).toNat)
    case atStart => exact ⟨0, by omega, rfl, h0, (Below.refl _ _).alloc (Nat.le_refl _) _⟩
    case round =>
      obtain ⟨k, hk, rfl, hib, hb⟩ := hrel
      have hlen := flat_take_len (bs s) k
      rw [bs_length] at hlen
      by_cases hlt : k < s.size
      · have hc := bs_get hlt
        obtain ⟨c, hcs⟩ : ∃ c : UInt8, s[k] = c := ⟨_, rfl⟩
        rw [hcs] at hc
        have hci : ∀ h, s[k]'h = c := fun _ => hcs
        clear hcs
        have hst := take_succ_flat wordB hc
        have HST := Lib.hid hst; clear hst hc
        have hbl : (Lib.byteCells (((bs s).take k).flatMap wordB)).length ≤ 3000000 := by rw [Lib.byteCells_length]; omega
        have hbs := hb.size
        cases hp : plainB c
        · have hwb : wordB c = 37 :: [hexd (c.toNat / 16), hexd (c.toNat % 16)] := by unfold wordB; rw [hp]; rfl
          have HW := Lib.hid hwb; clear hwb
          go_wp2_with (first
            | (go_at_call 43; refine (plain_any c _).mono ?_; rintro e w' ⟨rfl, rfl⟩)
            | (go_at_call 49; refine (hex_one ⟨wr.heap.size, 0, none⟩ c 1 _ (by exact (Blk.new wr 5 [.int .u8 c.toNat]).cell 0)).mono ?_; rintro e w1 ⟨rfl, hb1⟩
               have hb2 : Below wr.heap.size wr w1 := ((Below.refl wr.heap.size wr).alloc (Nat.le_refl _) _).trans (hb1.mono (by simp))
               have hib1 := builder_below hib hb2)
            | (go_at_call 48; refine (Tryz.Builder_WriteString w.heap.size w.heap.size _ _ _ hib1 (by simp [ByteArray.size]; omega) (by have := hb2.size; omega)).mono ?_; rintro e w2 ⟨rfl, hib2, hb3⟩))
          go_roundw
          case rel =>
            refine ⟨k + 1, by omega, by go_num, .inr ?_, (hb.trans (hb2.mono hbs)).trans hb3⟩
            rw [HST.out, HW.out, byteCells_app]
            have e : (⟨#[37]⟩ ++ ⟨#[hexd (c.toNat / 16), hexd (c.toNat % 16)]⟩ : ByteArray).data.toList = [37, hexd (c.toNat / 16), hexd (c.toNat % 16)] := by simp
            rw [Lib.strCells_eq, e] at hib2
            exact hib2
          case measure => simp [intOf]; omega
        · have hwb : wordB c = [c] := by unfold wordB; rw [hp]; rfl
          have HW := Lib.hid hwb; clear hwb
          go_wp2_with (first
            | (go_at_call 43; refine (plain_any c _).mono ?_; rintro e w' ⟨rfl, rfl⟩)
            | (go_at_call 47; refine (Tryz.Builder_WriteByte w.heap.size w.heap.size _ _ _ hib (by omega) hbs).mono ?_; rintro e w1 ⟨rfl, hib1, hb1⟩))
          go_roundw
          case rel => exact ⟨k + 1, by omega, by go_num, .inr (by rw [HST.out, HW.out, byteCells_app]; exact hib1), hb.trans hb1⟩
          case measure => simp [intOf]; omega
      · obtain rfl : k = s.size := by omega
        have hst : ((bs s).take s.size).flatMap wordB = wordL (bs s) := by
          rw [← bs_length, List.take_length]
          unfold wordL
          rw [if_neg HN.out]
        rw [hst] at hib
        go_wp2_with (go_at_call 50; refine (Tryz.Builder_String_any w.heap.size w.heap.size _ _ hib hb.size).mono ?_; rintro e w1 ⟨rfl, hb1⟩)
        go_ret
        exact ⟨rfl, hb.trans hb1⟩
  · have he' := bs_empty he
    go_enter Tryz.func15, Tryz.ntmps15
    go_wp2
    go_ret
    refine ⟨ret_str ?_, Below.refl _ _⟩
    rw [he']; rfl
end Go.Proofs.YtgplaeopcejmoaaGreatDoor
