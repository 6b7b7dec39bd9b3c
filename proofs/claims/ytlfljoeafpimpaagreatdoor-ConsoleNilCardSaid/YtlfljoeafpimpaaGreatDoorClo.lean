/- The closed facts of the row that go over all functions and types of the program, in pieces: in one piece each outgrows 10 GB. -/
import Derived.Test.YtlfljoeafpimpaaGreatDoorChecked
import Derived.Test.YtlfljoeafpimpaaGreatDoorRows
import GoSem.ClaimJoined
import GoSem.ClaimFollow
import GoSem.ClaimDataLaid
import Derived.KernelRfl
namespace Go.Proofs.YtlfljoeafpimpaaGreatDoor.Clo
open Go
/-! ### plain laws: a closure by a table of what leads where, its seen ones kept as bits -/
def lkC {α : Type} (K : Nat) : List (List α) → Nat → Option α
  | [], _ => none
  | c :: l, f => bif Nat.ble K f then lkC K l (f - K) else c[f]?
def fitsC {α : Type} (K : Nat) : List (List α) → Bool
  | [] => true
  | c :: l => (match l with | [] => Nat.ble c.length K | _ :: _ => Nat.beq c.length K) && fitsC K l
theorem lkC_eq {α : Type} (K : Nat) : ∀ (l : List (List α)) (f : Nat), fitsC K l = true → lkC K l f = l.flatten[f]?
  | [], f, _ => by simp [lkC]
  | c :: l, f, h => by
    unfold fitsC at h
    rw [Bool.and_eq_true] at h
    have ih := lkC_eq K l (f - K) h.2
    unfold lkC
    rw [List.flatten_cons]
    cases l with
    | nil =>
      have hc := Nat.le_of_ble_eq_true h.1
      rw [List.flatten_nil, List.append_nil]
      cases hb : Nat.ble K f with
      | false => rfl
      | true =>
        rw [cond_true, List.getElem?_eq_none (Nat.le_trans hc (Nat.le_of_ble_eq_true hb))]
        rfl
    | cons d l =>
      have hc : c.length = K := Nat.eq_of_beq_eq_true h.1
      cases hb : Nat.ble K f with
      | false =>
        have hf : f < K := Nat.lt_of_not_le fun hk => by rw [Nat.ble_eq_true_of_le hk] at hb; cases hb
        rw [cond_false, List.getElem?_append_left (by rw [hc]; exact hf)]
      | true =>
        rw [cond_true, List.getElem?_append_right (by rw [hc]; exact Nat.le_of_ble_eq_true hb), hc]
        exact ih
def hasB (m f : Nat) : Bool := Nat.beq (Nat.land 1 (Nat.shiftRight m f)) 1
def setB (m f : Nat) : Nat := Nat.lor m (Nat.shiftLeft 1 f)
theorem hasB_eq (m f : Nat) : hasB m f = m.testBit f := by
  show Nat.beq (1 &&& (m >>> f)) 1 = (1 &&& (m >>> f) != 0)
  have h : 1 &&& (m >>> f) = 0 ∨ 1 &&& (m >>> f) = 1 := by
    rw [Nat.one_and_eq_mod_two]
    rcases Nat.mod_two_eq_zero_or_one (m >>> f) with h | h
    · exact Or.inl h
    · exact Or.inr h
  rcases h with h | h <;> rw [h] <;> rfl
theorem hasB_set (m f i : Nat) : hasB (setB m f) i = (hasB m i || decide (f = i)) := by
  rw [hasB_eq, hasB_eq]
  show (m ||| (1 <<< f)).testBit i = _
  rw [Nat.testBit_or, Nat.one_shiftLeft, Nat.testBit_two_pow]
theorem hasB_zero (i : Nat) : hasB 0 i = false := by rw [hasB_eq, Nat.zero_testBit]
def cvF (lead : Nat → List Nat) (n : Nat) : List Nat → Nat → List Nat → Option (List Nat) :=
  Nat.rec (motive := fun _ => List Nat → Nat → List Nat → Option (List Nat))
    (fun todo _ acc => match todo with | [] => some acc.reverse | _ :: _ => none)
    (fun _ ih todo m acc => match todo with
      | [] => some acc.reverse
      | f :: t => bif hasB m f then ih t m acc else ih (lead f ++ t) (setB m f) (f :: acc)) n
theorem cvF_ok {P : Program} {lead : Nat → List Nat} (hl : ∀ f, (P.funcs[f]?).elim [] P.leadsTo = lead f) :
    ∀ (k : Nat) (todo : List Nat) (m : Nat) (acc L : List Nat) (n : Nat), (∀ i, hasB m i = acc.contains i) → cvF lead k todo m acc = some L → k ≤ n → P.closureVia n todo acc = L
  | k, [], m, acc, L, n, _, h, _ => by
    have h1 : cvF lead k [] m acc = some acc.reverse := by cases k <;> rfl
    rw [h1] at h
    have h2 : P.closureVia n [] acc = acc.reverse := by cases n <;> rfl
    rw [h2]
    exact Option.some.inj h
  | 0, _ :: _, m, acc, L, n, _, h, _ => by cases h
  | k + 1, f :: todo, m, acc, L, n, hm, h, hn => by
    obtain ⟨n, rfl⟩ : ∃ n', n = n' + 1 := ⟨n - 1, by omega⟩
    have h1 : (bif hasB m f then cvF lead k todo m acc else cvF lead k (lead f ++ todo) (setB m f) (f :: acc)) = some L := h
    show (if acc.contains f then P.closureVia n todo acc else P.closureVia n ((P.funcs[f]?).elim [] P.leadsTo ++ todo) (f :: acc)) = L
    cases hb : hasB m f with
    | true =>
      rw [hb, cond_true] at h1
      rw [if_pos (by rw [← hm, hb])]
      exact cvF_ok hl k todo m acc L n hm h1 (by omega)
    | false =>
      rw [hb, cond_false] at h1
      rw [if_neg (by rw [← hm, hb]; exact Bool.false_ne_true), hl]
      refine cvF_ok hl k _ _ _ L n (fun i => ?_) h1 (by omega)
      rw [hasB_set, hm, List.contains_cons, Bool.or_comm]
      congr 1
      by_cases hfi : f = i
      · subst hfi; simp
      · have : (i == f) = false := by simpa using fun h => hfi h.symm
        simp [hfi, this]
theorem clo_of {P : Program} {K : Nat} {T : List (List (List Nat))} (hT : P.funcs.toList.map P.leadsTo = T.flatten) (hf : fitsC K T = true) {f k N : Nat} {L : List Nat}
    (hs : (T.map fun c => (c.map fun l => l.length + 1).sum).sum = N) (hk : Nat.ble k (1 + N) = true) (h : cvF (fun f => (lkC K T f).getD []) k [f] 0 [] = some L) : P.closure f = L := by
  unfold Program.closure
  have h1 : (P.funcs.toList.map fun g => (P.leadsTo g).length + 1).sum = N := by
    have e : (P.funcs.toList.map fun g => (P.leadsTo g).length + 1) = (P.funcs.toList.map P.leadsTo).map fun l => l.length + 1 := by rw [List.map_map]; rfl
    rw [e, hT, ← hs]
    clear hT hf hs h e
    induction T with
    | nil => rfl
    | cons c T ih => rw [List.flatten_cons, List.map_append, List.sum_append, ih]; rfl
  rw [h1]
  refine cvF_ok (lead := fun f => (lkC K T f).getD []) (fun g => ?_) k [f] 0 [] L _ (fun i => by rw [hasB_zero]; rfl) h (Nat.le_of_ble_eq_true hk)
  show _ = (lkC K T g).getD []
  rw [lkC_eq K T g hf, ← hT, List.getElem?_map, Array.getElem?_toList]
  cases P.funcs[g]? <;> rfl
/-- what waits for its own initialiser -/
def waitR (f : Func) : List Nat := (f.body.map readies).getD []
theorem waiting_eq (P : Program) : waiting P = (P.funcs.toList.flatMap waitR).foldl (fun a g => a.setIfInBounds g true) (Array.replicate P.globals.size false) := rfl
/-- a function by its name -/
def nameR (P : Program) (name : String) (i : Nat) : Bool := (P.funcs[i]?).any (·.name == name)
theorem funcNamed_eq (P : Program) (name : String) : P.funcNamed name = match (List.range P.funcs.size).filter (nameR P name) with | [i] => some i | _ => none := rfl
/-- by types -/
def mapR (P : Program) (t : TypeId) : Bool := match P.underlying t with | some (.map _ e) => decide (e < P.types.size) | _ => true
theorem mapsRowed_eq (P : Program) : mapsRowed P = (List.range P.types.size).all (mapR P) := rfl
def hearR (fn : Func) : Bool := (Stop.rowOf fn).isNone || !fn.norace
theorem stopsHeard_eq (P : Program) : P.stopsHeard = P.funcs.toList.all hearR := by
  unfold Program.stopsHeard
  rw [← Array.all_toList]
  rfl
def laterR (fn : Func) : Bool := fn.body.isNone && (fn.name == "runtime.SetFinalizer" || fn.name == "runtime.AddCleanup" || fn.origin == "runtime.AddCleanup")
theorem laysLater_eq (P : Program) : P.laysLater = P.funcs.toList.any laterR := by
  unfold Program.laysLater
  rw [← Array.any_toList]
  rfl
def reflR (fn : Func) : Bool := fn.body.isNone && (opensWith (nameBytes "reflect.") (nameBytes fn.name) || opensWith (nameBytes "(reflect.") (nameBytes fn.name) || opensWith (nameBytes "(*reflect.") (nameBytes fn.name))
theorem bearsReflect_eq (P : Program) : P.bearsReflect = P.funcs.toList.any reflR := rfl
def doorR (fn : Func) : Bool := fn.body.isNone && opensWith (nameBytes "var's door: ") (nameBytes fn.name)
theorem doorRows_eq (P : Program) : P.doorRows = (P.funcs.toList.filter doorR).map fun fn => (nameBytes fn.name).reverse := rfl
theorem inPlaceOf_append (P : Program) (a b : List FuncId) : P.inPlaceOf (a ++ b) = P.inPlaceOf a ++ P.inPlaceOf b := List.filterMap_append
def gloR (P : Program) (g : FuncId) : List Nat := ((P.funcs[g]?).bind (·.body)).elim [] Code.globalsNamed
def earR (P : Program) (g : FuncId) : Option String := (P.funcs[g]?).bind fun fn => if fn.body.isNone then entryReads.lookup fn.name else none
theorem varsOf_eq (P : Program) (L : List FuncId) : P.varsOf L = (((L.flatMap (gloR P)).eraseDups).filterMap (fun g => (P.globals[g]?).map (·.name)) ++ L.filterMap (earR P)).eraseDups := rfl
def unfR (P : Program) (g : FuncId) : Bool := (P.funcs[g]?).any fun fn => match fn.body with | some c => c.unfollowed | none => entryCalls fn
theorem unfollowed_eq (P : Program) (f : FuncId) : P.unfollowed f = (P.closure f).any (unfR P) := rfl

/-! ### the functions, 50 at a time -/
noncomputable def fc0 : List Func := [Tryz.f0, Tryz.f1, Tryz.f2, Tryz.f3, Tryz.f4, Tryz.f5, Tryz.f6, Tryz.f7, Tryz.f8, Tryz.f9, Tryz.f10, Tryz.f11, Tryz.f12, Tryz.f13, Tryz.f14, Tryz.f15, Tryz.f16, Tryz.f17, 
  Tryz.f18, Tryz.f19, Tryz.f20, Tryz.f21, Tryz.f22, Tryz.f23, Tryz.f24, Tryz.f25, Tryz.f26, Tryz.f27, Tryz.f28, Tryz.f29, Tryz.f30, Tryz.f31, Tryz.f32, Tryz.f33, 
  Tryz.f34, Tryz.f35, Tryz.f36, Tryz.f37, Tryz.f38, Tryz.f39, Tryz.f40, Tryz.f41, Tryz.f42, Tryz.f43, Tryz.f44, Tryz.f45, Tryz.f46, Tryz.f47, Tryz.f48, Tryz.f49]
noncomputable def fc1 : List Func := [Tryz.f50, Tryz.f51, Tryz.f52, Tryz.f53, Tryz.f54, Tryz.f55, Tryz.f56, Tryz.f57, Tryz.f58, Tryz.f59, Tryz.f60, Tryz.f61, Tryz.f62, Tryz.f63, Tryz.f64, Tryz.f65, 
  Tryz.f66, Tryz.f67, Tryz.f68, Tryz.f69, Tryz.f70, Tryz.f71, Tryz.f72, Tryz.f73, Tryz.f74, Tryz.f75, Tryz.f76, Tryz.f77, Tryz.f78, Tryz.f79, Tryz.f80, Tryz.f81, 
  Tryz.f82, Tryz.f83, Tryz.f84, Tryz.f85, Tryz.f86, Tryz.f87, Tryz.f88, Tryz.f89, Tryz.f90, Tryz.f91, Tryz.f92, Tryz.f93, Tryz.f94, Tryz.f95, Tryz.f96, Tryz.f97, 
  Tryz.f98, Tryz.f99]
noncomputable def fc2 : List Func := [Tryz.f100, Tryz.f101, Tryz.f102, Tryz.f103, Tryz.f104, Tryz.f105, Tryz.f106, Tryz.f107, Tryz.f108, Tryz.f109, Tryz.f110, Tryz.f111, Tryz.f112, Tryz.f113, Tryz.f114, 
  Tryz.f115, Tryz.f116, Tryz.f117, Tryz.f118, Tryz.f119, Tryz.f120, Tryz.f121, Tryz.f122, Tryz.f123, Tryz.f124, Tryz.f125, Tryz.f126, Tryz.f127, Tryz.f128, Tryz.f129, 
  Tryz.f130, Tryz.f131, Tryz.f132, Tryz.f133, Tryz.f134, Tryz.f135, Tryz.f136, Tryz.f137, Tryz.f138, Tryz.f139, Tryz.f140, Tryz.f141, Tryz.f142, Tryz.f143, Tryz.f144, 
  Tryz.f145, Tryz.f146, Tryz.f147, Tryz.f148, Tryz.f149]
noncomputable def fc3 : List Func := [Tryz.f150, Tryz.f151, Tryz.f152, Tryz.f153, Tryz.f154, Tryz.f155, Tryz.f156, Tryz.f157, Tryz.f158, Tryz.f159, Tryz.f160, Tryz.f161, Tryz.f162, Tryz.f163, Tryz.f164, 
  Tryz.f165, Tryz.f166, Tryz.f167, Tryz.f168, Tryz.f169, Tryz.f170, Tryz.f171, Tryz.f172, Tryz.f173, Tryz.f174, Tryz.f175, Tryz.f176, Tryz.f177, Tryz.f178, Tryz.f179, 
  Tryz.f180, Tryz.f181, Tryz.f182, Tryz.f183, Tryz.f184, Tryz.f185, Tryz.f186, Tryz.f187, Tryz.f188, Tryz.f189, Tryz.f190, Tryz.f191, Tryz.f192, Tryz.f193, Tryz.f194, 
  Tryz.f195, Tryz.f196, Tryz.f197, Tryz.f198, Tryz.f199]
noncomputable def fc4 : List Func := [Tryz.f200, Tryz.f201, Tryz.f202, Tryz.f203, Tryz.f204, Tryz.f205, Tryz.f206, Tryz.f207, Tryz.f208, Tryz.f209, Tryz.f210, Tryz.f211, Tryz.f212, Tryz.f213, Tryz.f214, 
  Tryz.f215, Tryz.f216, Tryz.f217, Tryz.f218, Tryz.f219, Tryz.f220, Tryz.f221, Tryz.f222, Tryz.f223, Tryz.f224, Tryz.f225, Tryz.f226, Tryz.f227, Tryz.f228, Tryz.f229, 
  Tryz.f230, Tryz.f231, Tryz.f232, Tryz.f233, Tryz.f234, Tryz.f235, Tryz.f236, Tryz.f237, Tryz.f238, Tryz.f239, Tryz.f240, Tryz.f241, Tryz.f242, Tryz.f243, Tryz.f244, 
  Tryz.f245, Tryz.f246, Tryz.f247, Tryz.f248, Tryz.f249]
noncomputable def fc5 : List Func := [Tryz.f250, Tryz.f251, Tryz.f252, Tryz.f253, Tryz.f254, Tryz.f255, Tryz.f256, Tryz.f257, Tryz.f258, Tryz.f259, Tryz.f260, Tryz.f261, Tryz.f262, Tryz.f263, Tryz.f264, 
  Tryz.f265, Tryz.f266, Tryz.f267, Tryz.f268, Tryz.f269, Tryz.f270, Tryz.f271, Tryz.f272, Tryz.f273, Tryz.f274, Tryz.f275, Tryz.f276, Tryz.f277, Tryz.f278, Tryz.f279, 
  Tryz.f280, Tryz.f281, Tryz.f282, Tryz.f283, Tryz.f284, Tryz.f285, Tryz.f286, Tryz.f287, Tryz.f288, Tryz.f289, Tryz.f290, Tryz.f291, Tryz.f292, Tryz.f293, Tryz.f294, 
  Tryz.f295, Tryz.f296, Tryz.f297, Tryz.f298, Tryz.f299]
noncomputable def fc6 : List Func := [Tryz.f300, Tryz.f301, Tryz.f302, Tryz.f303, Tryz.f304, Tryz.f305, Tryz.f306, Tryz.f307, Tryz.f308, Tryz.f309, Tryz.f310, Tryz.f311, Tryz.f312, Tryz.f313, Tryz.f314, 
  Tryz.f315, Tryz.f316, Tryz.f317, Tryz.f318, Tryz.f319, Tryz.f320, Tryz.f321, Tryz.f322, Tryz.f323, Tryz.f324, Tryz.f325, Tryz.f326, Tryz.f327, Tryz.f328, Tryz.f329, 
  Tryz.f330, Tryz.f331, Tryz.f332, Tryz.f333, Tryz.f334, Tryz.f335, Tryz.f336, Tryz.f337, Tryz.f338, Tryz.f339, Tryz.f340, Tryz.f341, Tryz.f342, Tryz.f343, Tryz.f344, 
  Tryz.f345, Tryz.f346, Tryz.f347, Tryz.f348, Tryz.f349]
noncomputable def fc7 : List Func := [Tryz.f350, Tryz.f351, Tryz.f352, Tryz.f353, Tryz.f354, Tryz.f355, Tryz.f356, Tryz.f357, Tryz.f358, Tryz.f359, Tryz.f360, Tryz.f361, Tryz.f362, Tryz.f363, Tryz.f364, 
  Tryz.f365, Tryz.f366, Tryz.f367, Tryz.f368, Tryz.f369, Tryz.f370, Tryz.f371, Tryz.f372, Tryz.f373, Tryz.f374, Tryz.f375, Tryz.f376, Tryz.f377, Tryz.f378, Tryz.f379, 
  Tryz.f380, Tryz.f381, Tryz.f382, Tryz.f383, Tryz.f384, Tryz.f385, Tryz.f386, Tryz.f387, Tryz.f388, Tryz.f389, Tryz.f390, Tryz.f391, Tryz.f392, Tryz.f393, Tryz.f394, 
  Tryz.f395, Tryz.f396, Tryz.f397, Tryz.f398, Tryz.f399]
noncomputable def fc8 : List Func := [Tryz.f400, Tryz.f401, Tryz.f402, Tryz.f403, Tryz.f404, Tryz.f405, Tryz.f406, Tryz.f407, Tryz.f408, Tryz.f409, Tryz.f410, Tryz.f411, Tryz.f412, Tryz.f413, Tryz.f414, 
  Tryz.f415, Tryz.f416, Tryz.f417, Tryz.f418, Tryz.f419, Tryz.f420, Tryz.f421, Tryz.f422, Tryz.f423, Tryz.f424, Tryz.f425, Tryz.f426, Tryz.f427, Tryz.f428, Tryz.f429, 
  Tryz.f430, Tryz.f431, Tryz.f432, Tryz.f433, Tryz.f434, Tryz.f435, Tryz.f436, Tryz.f437, Tryz.f438, Tryz.f439, Tryz.f440, Tryz.f441, Tryz.f442, Tryz.f443, Tryz.f444, 
  Tryz.f445, Tryz.f446, Tryz.f447, Tryz.f448, Tryz.f449]
noncomputable def fc9 : List Func := [Tryz.f450, Tryz.f451, Tryz.f452, Tryz.f453, Tryz.f454, Tryz.f455, Tryz.f456, Tryz.f457, Tryz.f458, Tryz.f459, Tryz.f460, Tryz.f461, Tryz.f462, Tryz.f463, Tryz.f464, 
  Tryz.f465, Tryz.f466, Tryz.f467, Tryz.f468, Tryz.f469, Tryz.f470, Tryz.f471, Tryz.f472, Tryz.f473, Tryz.f474, Tryz.f475, Tryz.f476, Tryz.f477, Tryz.f478, Tryz.f479, 
  Tryz.f480, Tryz.f481, Tryz.f482, Tryz.f483, Tryz.f484, Tryz.f485, Tryz.f486, Tryz.f487, Tryz.f488, Tryz.f489, Tryz.f490, Tryz.f491, Tryz.f492, Tryz.f493, Tryz.f494, 
  Tryz.f495, Tryz.f496, Tryz.f497, Tryz.f498, Tryz.f499]
noncomputable def fc10 : List Func := [Tryz.f500, Tryz.f501, Tryz.f502, Tryz.f503, Tryz.f504, Tryz.f505, Tryz.f506, Tryz.f507, Tryz.f508, Tryz.f509, Tryz.f510, Tryz.f511, Tryz.f512, Tryz.f513, Tryz.f514, 
  Tryz.f515, Tryz.f516, Tryz.f517, Tryz.f518, Tryz.f519, Tryz.f520, Tryz.f521, Tryz.f522, Tryz.f523, Tryz.f524, Tryz.f525, Tryz.f526, Tryz.f527, Tryz.f528, Tryz.f529, 
  Tryz.f530, Tryz.f531, Tryz.f532, Tryz.f533, Tryz.f534, Tryz.f535, Tryz.f536, Tryz.f537, Tryz.f538, Tryz.f539, Tryz.f540, Tryz.f541, Tryz.f542, Tryz.f543, Tryz.f544, 
  Tryz.f545, Tryz.f546, Tryz.f547, Tryz.f548, Tryz.f549]
noncomputable def fc11 : List Func := [Tryz.f550, Tryz.f551, Tryz.f552, Tryz.f553, Tryz.f554, Tryz.f555, Tryz.f556, Tryz.f557, Tryz.f558, Tryz.f559, Tryz.f560, Tryz.f561, Tryz.f562, Tryz.f563, Tryz.f564, 
  Tryz.f565, Tryz.f566, Tryz.f567, Tryz.f568, Tryz.f569, Tryz.f570, Tryz.f571, Tryz.f572, Tryz.f573, Tryz.f574, Tryz.f575, Tryz.f576, Tryz.f577, Tryz.f578, Tryz.f579, 
  Tryz.f580, Tryz.f581, Tryz.f582, Tryz.f583, Tryz.f584, Tryz.f585, Tryz.f586, Tryz.f587, Tryz.f588, Tryz.f589, Tryz.f590, Tryz.f591, Tryz.f592, Tryz.f593, Tryz.f594, 
  Tryz.f595, Tryz.f596, Tryz.f597, Tryz.f598, Tryz.f599]
noncomputable def fc12 : List Func := [Tryz.f600, Tryz.f601, Tryz.f602, Tryz.f603, Tryz.f604, Tryz.f605, Tryz.f606, Tryz.f607, Tryz.f608, Tryz.f609, Tryz.f610, Tryz.f611, Tryz.f612, Tryz.f613, Tryz.f614, 
  Tryz.f615, Tryz.f616, Tryz.f617, Tryz.f618, Tryz.f619, Tryz.f620, Tryz.f621, Tryz.f622, Tryz.f623, Tryz.f624, Tryz.f625, Tryz.f626, Tryz.f627, Tryz.f628, Tryz.f629, 
  Tryz.f630, Tryz.f631, Tryz.f632, Tryz.f633, Tryz.f634, Tryz.f635, Tryz.f636, Tryz.f637, Tryz.f638, Tryz.f639, Tryz.f640, Tryz.f641, Tryz.f642, Tryz.f643, Tryz.f644, 
  Tryz.f645, Tryz.f646, Tryz.f647, Tryz.f648, Tryz.f649]
noncomputable def fc13 : List Func := [Tryz.f650, Tryz.f651, Tryz.f652, Tryz.f653, Tryz.f654, Tryz.f655, Tryz.f656, Tryz.f657, Tryz.f658, Tryz.f659, Tryz.f660, Tryz.f661, Tryz.f662, Tryz.f663, Tryz.f664, 
  Tryz.f665, Tryz.f666, Tryz.f667, Tryz.f668, Tryz.f669, Tryz.f670, Tryz.f671, Tryz.f672, Tryz.f673, Tryz.f674, Tryz.f675, Tryz.f676, Tryz.f677, Tryz.f678, Tryz.f679, 
  Tryz.f680, Tryz.f681, Tryz.f682, Tryz.f683, Tryz.f684, Tryz.f685, Tryz.f686, Tryz.f687, Tryz.f688, Tryz.f689, Tryz.f690, Tryz.f691, Tryz.f692, Tryz.f693, Tryz.f694, 
  Tryz.f695, Tryz.f696, Tryz.f697, Tryz.f698, Tryz.f699]
noncomputable def fc14 : List Func := [Tryz.f700, Tryz.f701, Tryz.f702, Tryz.f703, Tryz.f704, Tryz.f705, Tryz.f706, Tryz.f707, Tryz.f708, Tryz.f709, Tryz.f710, Tryz.f711, Tryz.f712, Tryz.f713, Tryz.f714, 
  Tryz.f715, Tryz.f716, Tryz.f717, Tryz.f718, Tryz.f719, Tryz.f720, Tryz.f721, Tryz.f722, Tryz.f723, Tryz.f724, Tryz.f725, Tryz.f726, Tryz.f727, Tryz.f728, Tryz.f729, 
  Tryz.f730, Tryz.f731, Tryz.f732, Tryz.f733, Tryz.f734, Tryz.f735, Tryz.f736, Tryz.f737, Tryz.f738, Tryz.f739, Tryz.f740, Tryz.f741, Tryz.f742, Tryz.f743, Tryz.f744, 
  Tryz.f745, Tryz.f746, Tryz.f747, Tryz.f748, Tryz.f749]
noncomputable def fc15 : List Func := [Tryz.f750, Tryz.f751, Tryz.f752, Tryz.f753, Tryz.f754, Tryz.f755, Tryz.f756, Tryz.f757, Tryz.f758, Tryz.f759, Tryz.f760, Tryz.f761, Tryz.f762, Tryz.f763, Tryz.f764, 
  Tryz.f765, Tryz.f766, Tryz.f767, Tryz.f768, Tryz.f769, Tryz.f770, Tryz.f771, Tryz.f772, Tryz.f773, Tryz.f774, Tryz.f775, Tryz.f776, Tryz.f777, Tryz.f778, Tryz.f779, 
  Tryz.f780, Tryz.f781, Tryz.f782, Tryz.f783, Tryz.f784, Tryz.f785, Tryz.f786, Tryz.f787, Tryz.f788, Tryz.f789, Tryz.f790, Tryz.f791, Tryz.f792, Tryz.f793, Tryz.f794, 
  Tryz.f795, Tryz.f796, Tryz.f797, Tryz.f798, Tryz.f799]
noncomputable def fc16 : List Func := [Tryz.f800, Tryz.f801, Tryz.f802, Tryz.f803, Tryz.f804, Tryz.f805, Tryz.f806, Tryz.f807, Tryz.f808, Tryz.f809, Tryz.f810, Tryz.f811, Tryz.f812, Tryz.f813, Tryz.f814, 
  Tryz.f815, Tryz.f816, Tryz.f817, Tryz.f818, Tryz.f819, Tryz.f820, Tryz.f821, Tryz.f822, Tryz.f823, Tryz.f824, Tryz.f825, Tryz.f826, Tryz.f827, Tryz.f828, Tryz.f829, 
  Tryz.f830, Tryz.f831, Tryz.f832, Tryz.f833, Tryz.f834, Tryz.f835, Tryz.f836, Tryz.f837, Tryz.f838, Tryz.f839, Tryz.f840, Tryz.f841, Tryz.f842, Tryz.f843, Tryz.f844, 
  Tryz.f845, Tryz.f846, Tryz.f847, Tryz.f848, Tryz.f849]
noncomputable def fc17 : List Func := [Tryz.f850, Tryz.f851, Tryz.f852, Tryz.f853, Tryz.f854, Tryz.f855, Tryz.f856, Tryz.f857, Tryz.f858, Tryz.f859, Tryz.f860, Tryz.f861, Tryz.f862, Tryz.f863, Tryz.f864, 
  Tryz.f865, Tryz.f866, Tryz.f867, Tryz.f868, Tryz.f869, Tryz.f870, Tryz.f871, Tryz.f872, Tryz.f873, Tryz.f874, Tryz.f875, Tryz.f876, Tryz.f877, Tryz.f878, Tryz.f879, 
  Tryz.f880, Tryz.f881, Tryz.f882, Tryz.f883, Tryz.f884, Tryz.f885, Tryz.f886, Tryz.f887, Tryz.f888, Tryz.f889, Tryz.f890, Tryz.f891]
noncomputable def fcs : List (List Func) := [fc0, fc1, fc2, fc3, fc4, fc5, fc6, fc7, fc8, fc9, fc10, fc11, fc12, fc13, fc14, fc15, fc16, fc17]
theorem fcs_eq : fcs = [fc0, fc1, fc2, fc3, fc4, fc5, fc6, fc7, fc8, fc9, fc10, fc11, fc12, fc13, fc14, fc15, fc16, fc17] := rfl
theorem fc_all : Tryz.checked.prog.funcs.toList = fcs.flatten := by kernel_rfl
def ld0 : List (List Nat) := [[], [], [1], 
  [4, 5, 7, 8, 6, 7, 8, 6, 7, 8, 6, 7, 8, 6, 7, 8, 6, 7, 8, 6, 7, 8, 6, 7, 8, 6, 7, 8, 6, 7, 8, 6, 7, 8, 6, 7, 9, 6, 7, 8, 6, 7, 8, 6, 10, 11, 12, 12, 13], 
  [], [14, 15, 7, 16, 17, 18], [], [14, 19, 20, 21, 19, 19], [22, 9], [], [], [], [5, 10, 7, 11], [4, 23, 7, 23], [], [24], [25], [25], [], 
  [26, 27, 28, 28], [29], [30, 31, 32, 33, 34, 35, 36, 37, 38], [26], [7, 9, 6], [20], [39], [40], [41, 16, 42, 16, 18], [43, 17, 44, 16, 18], [45], 
  [46], [4], [47, 48, 27], [49], [50, 51, 52, 53, 55, 56, 57, 54, 58, 54], [50, 59], [60], [47, 20], [61, 62, 63, 64], [], [65], [65], [66], [], [], 
  [67, 68, 67, 69, 68, 70], [71, 72, 73, 75, 74], [20, 76, 26], [62, 77, 51, 62], [78, 79]]
def ld1 : List (List Nat) := [[47, 77, 51], [80, 81, 82], [], [], [41, 16, 42, 16, 18], [83], [83], [55, 84, 85], [86], [51, 87, 88, 89, 92, 53, 58, 57, 93, 91, 90], [94, 95, 96], 
  [97, 99, 100, 98, 101, 102, 103, 103, 103, 104, 103, 105, 106], [78, 107, 108, 109], [110, 111], [26, 112, 112, 112, 28, 28, 28, 26, 112, 113], 
  [114, 115, 116, 117], [114, 115, 116, 117], [118], [], [], [119], [75, 120], [], [], [120, 121, 122], [], [123, 124], [], [], [125, 126], [78], [82], 
  [], [], [128], [129], [83, 130], [], [], [128, 131, 132], [133], [134, 135, 136, 137], [139, 135], [], [140, 92, 63, 141, 142], 
  [140, 143, 92, 145, 144], [140, 92, 144, 147], [148], [], []]
def ld2 : List (List Nat) := [[], [], [], [100, 76, 26], [100, 149, 150, 151, 152, 152, 153, 153, 153, 103], [], [101, 154, 155], [156, 80, 80], 
  [157, 158, 159, 160, 161, 162, 163, 164, 165, 166, 167, 168], [169, 170], [], [], [42], [171, 16, 16, 16, 18], [], [173, 172, 174], [], [175, 176], [], 
  [], [], [177, 178, 180, 183, 184, 179], [186, 120, 187, 188], [189], [190, 191, 192, 193], [194, 195], [127], [], [], [], [], [129, 196, 86], [129], 
  [197, 198, 199], [], [], [200], [138], [201, 201], [], [77], [], [203, 202, 203, 205, 204, 206, 207], [63], [208], [146], [134], [], [209], [210]]
def ld3 : List (List Nat) := [[], [], [100, 211, 112], [100, 212], [], [150, 213], [], [81, 82, 214, 53, 58, 215], [216, 81, 82, 217, 218], [219], [220], [81, 82, 221, 218], 
  [82, 222], [81, 82, 223], [81, 82, 223, 225, 224, 222, 75, 122, 170, 222, 52, 226], [81, 82, 227, 218], [81, 82, 228], 
  [81, 81, 82, 52, 53, 55, 229, 82, 58, 55, 231, 230], [82, 232, 186, 233], [234], [235], [25, 236], [], [], [], [], [237, 238], [186], 
  [235, 240, 239, 241], [], [182, 181], [235, 242, 232, 244, 243], [42], [181], [185], [130, 245, 248, 250, 179], [251, 252], [], 
  [224, 86, 253, 254, 255, 196, 86, 256, 255, 257, 258, 255, 196, 259, 260, 255, 255, 196], [261], [262], [262], [262, 26, 263], [262, 26, 263], [], [], 
  [264], [265, 266], [], [268, 269]]
def ld4 : List (List Nat) := [[270, 270, 271, 271], [], [197], [91, 90, 206], [272], [197, 197, 111], [111, 133], [], [], [273, 274, 275], [], [261, 124], [43, 276, 43], [], 
  [234, 277, 279, 280, 281, 282], [283, 284], [285, 286, 127], [234, 287, 169, 288, 289, 290, 291, 292, 293], [294], [216], [285, 295, 296], 
  [234, 297, 169, 298, 299, 300, 301], [235], [225, 178, 303, 302], [177, 304, 305, 306, 307, 308], [235, 309], [58, 55], [234, 310, 289, 280, 312, 313], 
  [234, 314, 280, 315, 257], [83, 55, 307, 182, 55, 316, 246, 317, 55], [234, 318, 169, 319, 320, 321, 322, 188, 323, 253], [234, 324, 280, 325], [235], 
  [251, 326, 327], [], [], [328], [], [], [329, 330], [331], [], [], [], [], [247, 246], [251, 326, 332, 243], 
  [334, 334, 334, 333, 334, 334, 333, 335, 334], [249], [251, 336, 243]]
def ld5 : List (List Nat) := [[], [235, 242, 337, 232], [], [260], [224, 86, 338, 339, 55, 340], [129], [255, 255, 196, 86, 341], [260, 196, 342], [255], [58], [], 
  [343, 343, 343, 343, 343, 343, 344], [], [], [], [], [267], [345, 345], [], [346], [], [347, 271, 271], [], [348, 349], [348, 350, 275], [45], [], 
  [278], [311, 170], [], [169, 52], [], [351, 352, 353, 354, 355, 356, 357, 358, 359, 360, 361, 362], [], [], [194, 125], [], [278], 
  [363, 364, 365, 366, 368, 369, 367, 371, 372], [], [373, 374, 313, 375], [376, 377, 378, 380, 379, 380, 379, 380, 379, 375], [381, 55, 229, 300, 301], 
  [], [194, 382, 382, 295, 296], [194], [127], [278], [55, 229, 383, 302, 384, 375], [128, 385, 386]]
def ld6 : List (List Nat) := [[387], [57, 389, 388, 313], [390, 391], [392], [186, 393], [182, 232, 394], [395], [], [307, 182, 396, 55, 186, 316, 246, 317], [], [311], [], 
  [397, 58, 398, 55], [399], [278], [84, 89, 84, 255, 196, 58, 55, 400, 401, 402, 403, 405, 407, 409, 411], [307, 55, 55, 412], [307, 182, 249], [278], 
  [413, 414], [55, 229, 415], [400, 130, 224, 416, 86, 55, 410, 417, 418, 419, 420, 422, 421, 423, 86, 410], [223, 224, 86, 323, 253], [170, 224], [311], 
  [424, 425, 426], [], [], [], [427], [429, 428], [], [327], [], [430], [431, 432], [252], [], [186, 58, 232, 181], [196, 55], [129, 196, 433, 434], 
  [255, 436, 435, 437], [], [], [343, 343, 343, 343, 343, 343], [], [438, 438, 438], [439, 439, 439], [], [440]]
def ld7 : List (List Nat) := [[], [57, 378, 441, 442], [443, 444], [445, 446], [447], [448], [449], [450], [451, 378, 229, 452], [453, 454], [452], [455, 456, 457], [437], [], 
  [335], [333], [458, 363], [459], [366], [370], [366, 458], [460, 461], [459], [58], [462, 372, 58, 134, 56, 398, 55], [463, 313], [], 
  [462, 372, 56, 58, 134], [58], [464], [378], [397, 372, 58, 55, 398, 465, 400, 466, 467], [], [468], [462], [129, 196, 433], [429, 469], 
  [128, 385, 299, 470], [397, 55, 56, 58, 398, 55], [89, 471, 472], [473], [429, 474], [], 
  [365, 475, 366, 366, 366, 366, 366, 366, 366, 366, 461, 366, 461, 475, 460, 335, 400, 476, 477], [182, 186, 478], [127, 479], [232], [], [], 
  [372, 481, 482, 367, 335, 430]]
def ld8 : List (List Nat) := [[484], [55, 229], [55, 340], [55, 404], [83, 55, 400, 55, 485, 487, 179], [406], [83, 55, 488, 55], [408], [129, 196, 433, 434], [86, 410], 
  [83, 489, 185], [341], [334, 334], [], [490, 492, 491], [264, 493, 494, 249], [58, 495, 55], [433, 496, 302], [], [497, 498, 249], [433], [], [], 
  [83, 400, 495, 55, 484, 499, 500, 501, 484, 182, 232, 502, 308, 179], [264], [186, 504], [505], [], 
  [506, 507, 508, 509, 510, 511, 512, 513, 514, 428, 428], [515, 173], [], [516], [], [83, 55, 480], [517, 518, 519], [520, 325, 521, 522, 523], [129], 
  [413, 525, 526, 524], [], [], [], [413, 527], [128, 89, 471], [529, 531, 528, 530], [536, 255, 533, 537], [538, 528, 530], [536, 255, 539, 537], [541], 
  [541], [542, 528, 530]]
def ld9 : List (List Nat) := [[545, 546, 547, 528], [550, 528, 530], [380, 553], [554, 555, 528], [128], [413], [490, 472], [413, 456, 557, 559, 558, 561, 196, 406, 563], [460], [], 
  [], [460], [], [462, 56, 564, 58, 565], [566, 567], [480], [306, 229, 404], [83, 55, 306, 55], [], 
  [568, 569, 570, 571, 572, 573, 574, 575, 576, 469, 469], [408, 577], [436, 579, 578], [], [], [580, 581, 582, 583, 584, 585, 586, 587, 588, 474, 474], 
  [458], [589], [], [363, 363], [480], [590, 591, 365, 371, 592], [430], [483], [333], [594, 593], [182, 486], [232, 503, 181], [185], 
  [592, 591, 430, 430, 595, 430], [], [], [596, 386], [597], [264, 598, 302], [599, 55, 229, 246], [], [600], [601], [599, 602, 603, 246], [182, 486]]
def ld10 : List (List Nat) := [[185], [], [182, 503], [251, 604, 243], [363, 606], [494], [512], [607, 607], [608, 609], [610, 610, 610, 611], [], [512, 512, 512], [345, 345], 
  [512, 512], [512, 512, 512, 512], [], [], [264, 592, 612, 325, 599, 612], [613, 614, 615, 302, 325, 599, 616, 612], [], [196], [264], 
  [617, 619, 618, 621, 622, 620], [], [264, 55, 623, 386, 592, 592, 624, 625, 626, 627, 415, 628], [490], [490, 629, 386], [490, 526, 578], [413, 545], 
  [], [], [532, 533, 534, 535], [631, 632], [633, 634, 636, 635], [637], [561, 638], [128, 89], [637, 639, 638], [532, 539, 540], [640, 641, 635], 
  [642, 643, 644], [529, 645, 646, 528], [543, 544], [650], [651], [413, 652], [], [548, 549], [490, 650, 630, 653], [651, 544, 654, 655, 656]]
def ld11 : List (List Nat) := [[551, 552], [650, 630, 653], [657], [658, 567], [], [556, 552], [650, 630, 653], [659, 661, 660], [664], [561, 562, 560], [665, 666, 666], [667], 
  [490, 668], [521, 669, 670], [83, 480, 127], [671, 421, 398], [], [672], [574], [673, 673], [608, 609], [674, 674, 674, 675], [], [574, 574, 574], 
  [201, 201], [574, 574], [574, 574, 574, 574], [128], [623, 386, 676], [129, 677, 491], [586], [678, 678], [608, 609], [679, 679, 679, 680], [], 
  [586, 586, 586], [681, 681], [586, 586], [586, 586, 586, 586], [], [363, 363, 363, 595], [682, 683, 684, 684, 685, 686, 687, 688], [689, 690, 691], 
  [421], [], [335], [692], [], [693], [363]]
def ld12 : List (List Nat) := [[], [], [430, 606, 430], [186], [605], [], [335], [512, 512], [429], [], [611], [694, 694, 694], [424, 602, 426], [196, 592], [695], [696], [], [], 
  [697, 698, 699, 700, 701, 702, 703, 704, 702], [702], [], [619], [], [], [406], [], [406], [55, 229], [86, 410], [630], [386], [650, 623], [650, 630], 
  [], [], [705, 706], [], [707, 708, 709, 710, 663], [711, 712], [667], [], [], [534, 535], [429, 713], [267], [], [647, 648, 649], [714, 715], 
  [532, 533, 534, 561, 716, 535], [717, 521, 718, 719, 720]]
def ld13 : List (List Nat) := [[490], [], [650], [623, 721], [], [], [], [549], [566, 724, 723, 722], [], [709], [662, 663], [697, 725], [365, 366, 366, 370, 370, 371, 727], [], [], 
  [], [695, 728], [654], [729, 730, 705, 731, 706, 732, 733], [734, 708, 615, 302, 391, 736, 735], [], [138, 138, 738], [574, 574], [675], 
  [739, 739, 739], [], [740], [586, 586], [680], [741, 741, 741], [], [742, 743, 743, 744], [742, 743, 744], [742, 745], [742], [742, 745], [742, 742], 
  [742, 742], [], [746, 746, 747, 748, 749, 748, 749], [750, 751], [], [], [512], [], [], [701, 703, 726], [], [703, 701, 700, 701]]
def ld14 : List (List Nat) := [[726, 701, 701], [752], [430], [752], [702, 702], [753, 754, 662, 755, 756, 758], [753, 754, 662, 755, 731, 759, 760], [], [], 
  [761, 619, 753, 754, 662, 663], [697, 762, 333], [], [763, 763], [764, 765, 766, 767, 768, 769, 770, 771, 713, 713], [651], [651, 772], [773, 774], 
  [650, 630], [776, 708, 777, 735], [779, 780, 781, 660], [784, 730, 705, 731, 706, 732, 785, 786], 
  [613, 614, 615, 302, 521, 787, 196, 406, 325, 616, 612], [788, 789, 790], [791], [792], [726, 701, 333], [793], [], [], [], [634], [794], [], 
  [697, 762, 704, 726, 701, 702, 702], [], [709], [737], [733, 783], [], [574], [], [586], [366, 430], [742], [370, 483], [743, 742, 461, 475, 742], [], 
  [], [], []]
def ld15 : List (List Nat) := [[], [], [363], [697], [], [730], [757], [267, 795, 795, 738], [429, 796], [429, 797], [757], [], [701, 726], [668, 775, 666], [], [798, 798], 
  [608, 609], [799, 799, 799, 800], [], [], [], [], [801], [], [668, 775, 666], [802], [], [710, 430, 778], [697, 698, 762], [], 
  [727, 430, 430, 483, 483, 333], [782, 783, 618], [697, 699], [697, 701, 662, 704, 702], [], [803, 618, 804, 618], 
  [805, 803, 333, 806, 619, 803, 618, 804, 794, 785, 807, 808, 809, 810, 620], [424, 425, 426, 812, 811], [], [429, 813], [672], [], [], [752, 752], 
  [757], [681, 681], [814, 815, 816, 817, 818, 819, 820, 821, 796, 796], [822, 823, 824, 825, 826, 827, 828, 829, 797, 797], [], [800]]
def ld16 : List (List Nat) := [[830, 830, 830], [], [831, 832, 668], [730, 333], [733, 783], [], [618, 783, 618], [], [], [], [], [833, 426, 406, 602], [], 
  [834, 835, 836, 837, 838, 839, 840, 841, 813, 813], [], [842, 842], [608, 609], [843, 843, 843, 844], [], [], [], [], [], [845, 845], [608, 609], 
  [846, 846, 846, 847], [], [], [], [], [], [574, 848, 848], [574], [592, 55, 849], [], [850, 850], [608, 609], [851, 851, 851, 852], [], [], [], [], [], 
  [844], [853, 853, 853], [], [847], [854, 854, 854], [], [488]]
def ld17 : List (List Nat) := [[], [852], [855, 855, 855], [], [], [], [], [], [], [], [], [], [], [], [], [], [], [], [], [], [], [], [], [], [], [424, 425, 876, 426, 812, 811], 
  [333], [], [], [], [], [], [], [], [], [], [], [], [], [], [], [263, 263]]
theorem ld0_eq : fc0.map Tryz.checked.prog.leadsTo = ld0 := by kernel_rfl
theorem ld1_eq : fc1.map Tryz.checked.prog.leadsTo = ld1 := by kernel_rfl
theorem ld2_eq : fc2.map Tryz.checked.prog.leadsTo = ld2 := by kernel_rfl
theorem ld3_eq : fc3.map Tryz.checked.prog.leadsTo = ld3 := by kernel_rfl
theorem ld4_eq : fc4.map Tryz.checked.prog.leadsTo = ld4 := by kernel_rfl
theorem ld5_eq : fc5.map Tryz.checked.prog.leadsTo = ld5 := by kernel_rfl
theorem ld6_eq : fc6.map Tryz.checked.prog.leadsTo = ld6 := by kernel_rfl
theorem ld7_eq : fc7.map Tryz.checked.prog.leadsTo = ld7 := by kernel_rfl
theorem ld8_eq : fc8.map Tryz.checked.prog.leadsTo = ld8 := by kernel_rfl
theorem ld9_eq : fc9.map Tryz.checked.prog.leadsTo = ld9 := by kernel_rfl
theorem ld10_eq : fc10.map Tryz.checked.prog.leadsTo = ld10 := by kernel_rfl
theorem ld11_eq : fc11.map Tryz.checked.prog.leadsTo = ld11 := by kernel_rfl
theorem ld12_eq : fc12.map Tryz.checked.prog.leadsTo = ld12 := by kernel_rfl
theorem ld13_eq : fc13.map Tryz.checked.prog.leadsTo = ld13 := by kernel_rfl
theorem ld14_eq : fc14.map Tryz.checked.prog.leadsTo = ld14 := by kernel_rfl
theorem ld15_eq : fc15.map Tryz.checked.prog.leadsTo = ld15 := by kernel_rfl
theorem ld16_eq : fc16.map Tryz.checked.prog.leadsTo = ld16 := by kernel_rfl
theorem ld17_eq : fc17.map Tryz.checked.prog.leadsTo = ld17 := by kernel_rfl
def lds : List (List (List Nat)) := [ld0, ld1, ld2, ld3, ld4, ld5, ld6, ld7, ld8, ld9, ld10, ld11, ld12, ld13, ld14, ld15, ld16, ld17]
theorem ld_all : Tryz.checked.prog.funcs.toList.map Tryz.checked.prog.leadsTo = lds.flatten := by
  rw [fc_all, List.map_flatten]
  show ([fc0.map Tryz.checked.prog.leadsTo, fc1.map Tryz.checked.prog.leadsTo, fc2.map Tryz.checked.prog.leadsTo, fc3.map Tryz.checked.prog.leadsTo, fc4.map Tryz.checked.prog.leadsTo, fc5.map Tryz.checked.prog.leadsTo, fc6.map Tryz.checked.prog.leadsTo, fc7.map Tryz.checked.prog.leadsTo, fc8.map Tryz.checked.prog.leadsTo, fc9.map Tryz.checked.prog.leadsTo, fc10.map Tryz.checked.prog.leadsTo, fc11.map Tryz.checked.prog.leadsTo, fc12.map Tryz.checked.prog.leadsTo, fc13.map Tryz.checked.prog.leadsTo, fc14.map Tryz.checked.prog.leadsTo, fc15.map Tryz.checked.prog.leadsTo, fc16.map Tryz.checked.prog.leadsTo, fc17.map Tryz.checked.prog.leadsTo]).flatten = _
  rw [ld0_eq, ld1_eq, ld2_eq, ld3_eq, ld4_eq, ld5_eq, ld6_eq, ld7_eq, ld8_eq, ld9_eq, ld10_eq, ld11_eq, ld12_eq, ld13_eq, ld14_eq, ld15_eq, ld16_eq, ld17_eq]
  all_goals rfl
def cl0 : List Nat := [3, 4, 5, 14, 15, 24, 20, 29, 45, 67, 118, 68, 69, 70, 119, 7, 19, 26, 40, 65, 114, 115, 173, 172, 174, 116, 117, 175, 176, 237, 238, 27, 41, 16, 25, 
  39, 42, 66, 18, 28, 43, 17, 44, 21, 30, 46, 71, 75, 120, 72, 73, 74, 121, 177, 186, 251, 235, 242, 337, 232, 252, 178, 240, 331, 239, 329, 427, 330, 
  429, 515, 428, 506, 512, 345, 507, 607, 508, 608, 609, 509]
def cl1 : List Nat := [610, 611, 694, 510, 511, 513, 514, 241, 180, 182, 181, 244, 243, 183, 184, 185, 130, 245, 247, 334, 430, 333, 335, 431, 516, 432, 246, 326, 332, 327, 
  248, 249, 336, 250, 179, 122, 187, 188, 224, 304, 393, 365, 475, 458, 460, 366, 363, 461, 400, 484, 594, 593, 421, 476, 589, 477, 305, 394, 478, 306, 
  395, 127, 479, 480, 590, 595, 591, 682, 742, 743, 744, 370, 483, 683, 684, 745, 685, 686, 687, 688]
def cl2 : List Nat := [371, 592, 689, 690, 746, 747, 748, 749, 691, 750, 751, 307, 308, 396, 55, 83, 316, 412, 317, 86, 253, 260, 254, 338, 58, 339, 196, 264, 340, 129, 433, 
  434, 517, 612, 424, 602, 606, 426, 505, 494, 599, 229, 325, 425, 504, 518, 613, 614, 695, 615, 696, 302, 390, 473, 391, 474, 580, 586, 681, 581, 678, 
  582, 583, 679, 680, 741, 584, 585, 587, 588, 616, 519, 255, 256, 341, 436, 435, 520, 521, 522]
def cl3 : List Nat := [617, 619, 702, 618, 697, 701, 752, 703, 726, 793, 698, 699, 700, 704, 621, 622, 620, 523, 437, 413, 525, 490, 526, 629, 630, 386, 469, 568, 574, 201, 
  569, 673, 570, 571, 674, 675, 739, 572, 573, 575, 576, 524, 623, 624, 406, 488, 625, 626, 627, 415, 493, 598, 693, 628, 410, 489, 257, 342, 258, 259, 
  31, 32, 47, 76, 123, 189, 261, 343, 344, 124, 190, 262, 191, 192, 263, 193, 48, 62, 78, 107]
def cl4 : List Nat := [156, 80, 108, 157, 81, 82, 214, 234, 277, 278, 311, 170, 279, 280, 169, 52, 281, 282, 351, 57, 84, 128, 85, 378, 441, 527, 578, 676, 442, 89, 131, 132, 
  471, 579, 677, 740, 491, 596, 692, 352, 443, 529, 531, 532, 631, 650, 632, 533, 633, 634, 636, 635, 705, 753, 754, 662, 725, 755, 730, 756, 757, 267, 
  795, 738, 758, 796, 814, 815, 842, 816, 817, 843, 844, 853, 818, 819, 820, 821, 706, 731]
def cl5 : List Nat := [794, 759, 797, 822, 823, 845, 824, 825, 846, 847, 854, 826, 827, 828, 829, 760, 534, 637, 707, 708, 709, 761, 663, 727, 710, 762, 535, 561, 667, 728, 
  638, 711, 712, 763, 668, 654, 775, 802, 831, 848, 832, 666, 528, 545, 652, 530, 444, 536, 537, 639, 353, 445, 538, 539, 640, 641, 540, 642, 643, 713, 
  764, 765, 798, 766, 767, 799, 800, 830, 768, 769, 770, 771, 644, 446, 354, 447, 541, 645, 646, 647]
def cl6 : List Nat := [714, 651, 715, 772, 801, 648, 716, 773, 774, 649, 717, 718, 776, 777, 778, 735, 719, 779, 780, 781, 782, 783, 660, 720, 784, 732, 785, 803, 804, 733, 
  786, 805, 806, 807, 808, 809, 810, 355, 448, 356, 449, 542, 543, 544, 357, 450, 546, 547, 548, 653, 721, 787, 812, 811, 833, 849, 549, 655, 656, 358, 
  451, 550, 551, 552, 657, 452, 380, 553, 658, 566, 724, 792, 723, 791, 722, 788, 789, 813, 834, 835]
def cl7 : List Nat := [850, 836, 837, 851, 852, 855, 838, 839, 840, 841, 790, 672, 138, 567, 359, 453, 554, 555, 556, 454, 360, 361, 455, 456, 472, 457, 557, 659, 661, 559, 
  562, 560, 665, 558, 664, 563, 669, 729, 670, 734, 736, 737, 362, 53, 215, 283, 284, 158, 216, 285, 194, 125, 195, 286, 217, 287, 288, 364, 368, 369, 
  367, 459, 372, 289, 290, 373, 374, 462, 134, 56, 398, 313, 399, 481, 482, 375, 463, 564, 565, 671]
def cl8 : List Nat := [291, 376, 377, 379, 464, 292, 381, 397, 465, 466, 404, 485, 486, 503, 604, 605, 487, 467, 300, 387, 385, 299, 470, 408, 577, 301, 389, 388, 293, 218, 
  294, 382, 295, 296, 159, 219, 160, 220, 161, 221, 297, 298, 383, 468, 384, 162, 222, 163, 223, 225, 309, 303, 392, 164, 226, 165, 227, 310, 312, 166, 
  228, 314, 315, 401, 402, 403, 405, 407, 409, 411, 167, 231, 324, 230, 318, 319, 414, 492, 597, 320]
def cl9 : List Nat := [321, 416, 495, 417, 496, 600, 418, 419, 497, 601, 498, 603, 420, 422, 423, 499, 500, 501, 502, 322, 323, 168, 233, 109, 77, 51, 33, 49, 79, 126, 34, 
  50, 54, 35, 59, 87, 88, 92, 139, 135, 93, 91, 136, 200, 270, 271, 347, 439, 137, 90, 133, 197, 265, 266, 198, 199, 268, 269, 346, 438, 36, 60, 94, 140, 
  63, 110, 111, 141, 142, 203, 206, 202, 205, 204, 272, 207, 95, 143, 145, 146]
def cl10 : List Nat := [144, 208, 96, 147, 37, 38, 61, 97, 148, 209, 273, 348, 349, 440, 274, 350, 275, 99, 100, 98, 101, 102, 103, 104, 149, 210, 150, 151, 152, 211, 112, 
  153, 212, 276, 105, 106, 154, 155, 213, 64, 113, 171, 236, 328, 8, 22, 9, 6, 10, 11, 12, 13, 23]
def cls : List (List Nat) := [cl0, cl1, cl2, cl3, cl4, cl5, cl6, cl7, cl8, cl9, cl10]
theorem ld_fits : fitsC 50 lds = true := by kernel_rfl
theorem ld_sum : (lds.map fun c => (c.map fun l => l.length + 1).sum).sum = 2756 := by kernel_rfl
theorem clo_run : cvF (fun f => (lkC 50 lds f).getD []) 1855 [3] 0 [] = some cls.flatten := by kernel_rfl
theorem clo : Tryz.checked.prog.closure 3 = cls.flatten := clo_of ld_all ld_fits ld_sum (by kernel_rfl) clo_run
/-! ### two functions by their names -/
theorem funcs_size : Tryz.checked.prog.funcs.size = 892 := by kernel_rfl
theorem funcs_range : List.range 892 = List.range' 0 60 ++ List.range' 60 60 ++ List.range' 120 60 ++ List.range' 180 60 ++ List.range' 240 60 ++ List.range' 300 60 ++ List.range' 360 60 ++ List.range' 420 60 ++ List.range' 480 60 ++ List.range' 540 60 ++ List.range' 600 60 ++ List.range' 660 60 ++ List.range' 720 60 ++ List.range' 780 60 ++ List.range' 840 52 := by kernel_rfl
theorem nv0 : (List.range' 0 60).filter (nameR Tryz.checked.prog "gosem.cut.vars") = [] := by kernel_rfl
theorem nv1 : (List.range' 60 60).filter (nameR Tryz.checked.prog "gosem.cut.vars") = [] := by kernel_rfl
theorem nv2 : (List.range' 120 60).filter (nameR Tryz.checked.prog "gosem.cut.vars") = [] := by kernel_rfl
theorem nv3 : (List.range' 180 60).filter (nameR Tryz.checked.prog "gosem.cut.vars") = [] := by kernel_rfl
theorem nv4 : (List.range' 240 60).filter (nameR Tryz.checked.prog "gosem.cut.vars") = [] := by kernel_rfl
theorem nv5 : (List.range' 300 60).filter (nameR Tryz.checked.prog "gosem.cut.vars") = [] := by kernel_rfl
theorem nv6 : (List.range' 360 60).filter (nameR Tryz.checked.prog "gosem.cut.vars") = [] := by kernel_rfl
theorem nv7 : (List.range' 420 60).filter (nameR Tryz.checked.prog "gosem.cut.vars") = [] := by kernel_rfl
theorem nv8 : (List.range' 480 60).filter (nameR Tryz.checked.prog "gosem.cut.vars") = [] := by kernel_rfl
theorem nv9 : (List.range' 540 60).filter (nameR Tryz.checked.prog "gosem.cut.vars") = [] := by kernel_rfl
theorem nv10 : (List.range' 600 60).filter (nameR Tryz.checked.prog "gosem.cut.vars") = [] := by kernel_rfl
theorem nv11 : (List.range' 660 60).filter (nameR Tryz.checked.prog "gosem.cut.vars") = [] := by kernel_rfl
theorem nv12 : (List.range' 720 60).filter (nameR Tryz.checked.prog "gosem.cut.vars") = [] := by kernel_rfl
theorem nv13 : (List.range' 780 60).filter (nameR Tryz.checked.prog "gosem.cut.vars") = [] := by kernel_rfl
theorem nv14 : (List.range' 840 52).filter (nameR Tryz.checked.prog "gosem.cut.vars") = [891] := by kernel_rfl
theorem vars_named : Tryz.checked.prog.funcNamed "gosem.cut.vars" = some 891 := by
  rw [funcNamed_eq, funcs_size, funcs_range]
  simp only [List.filter_append, nv0, nv1, nv2, nv3, nv4, nv5, nv6, nv7, nv8, nv9, nv10, nv11, nv12, nv13, nv14]
  all_goals rfl
theorem nl0 : (List.range' 0 60).filter (nameR Tryz.checked.prog "understudy/understudylaw28.ConsoleNil") = [3] := by kernel_rfl
theorem nl1 : (List.range' 60 60).filter (nameR Tryz.checked.prog "understudy/understudylaw28.ConsoleNil") = [] := by kernel_rfl
theorem nl2 : (List.range' 120 60).filter (nameR Tryz.checked.prog "understudy/understudylaw28.ConsoleNil") = [] := by kernel_rfl
theorem nl3 : (List.range' 180 60).filter (nameR Tryz.checked.prog "understudy/understudylaw28.ConsoleNil") = [] := by kernel_rfl
theorem nl4 : (List.range' 240 60).filter (nameR Tryz.checked.prog "understudy/understudylaw28.ConsoleNil") = [] := by kernel_rfl
theorem nl5 : (List.range' 300 60).filter (nameR Tryz.checked.prog "understudy/understudylaw28.ConsoleNil") = [] := by kernel_rfl
theorem nl6 : (List.range' 360 60).filter (nameR Tryz.checked.prog "understudy/understudylaw28.ConsoleNil") = [] := by kernel_rfl
theorem nl7 : (List.range' 420 60).filter (nameR Tryz.checked.prog "understudy/understudylaw28.ConsoleNil") = [] := by kernel_rfl
theorem nl8 : (List.range' 480 60).filter (nameR Tryz.checked.prog "understudy/understudylaw28.ConsoleNil") = [] := by kernel_rfl
theorem nl9 : (List.range' 540 60).filter (nameR Tryz.checked.prog "understudy/understudylaw28.ConsoleNil") = [] := by kernel_rfl
theorem nl10 : (List.range' 600 60).filter (nameR Tryz.checked.prog "understudy/understudylaw28.ConsoleNil") = [] := by kernel_rfl
theorem nl11 : (List.range' 660 60).filter (nameR Tryz.checked.prog "understudy/understudylaw28.ConsoleNil") = [] := by kernel_rfl
theorem nl12 : (List.range' 720 60).filter (nameR Tryz.checked.prog "understudy/understudylaw28.ConsoleNil") = [] := by kernel_rfl
theorem nl13 : (List.range' 780 60).filter (nameR Tryz.checked.prog "understudy/understudylaw28.ConsoleNil") = [] := by kernel_rfl
theorem nl14 : (List.range' 840 52).filter (nameR Tryz.checked.prog "understudy/understudylaw28.ConsoleNil") = [] := by kernel_rfl
theorem law_named : Tryz.checked.prog.funcNamed "understudy/understudylaw28.ConsoleNil" = some 3 := by
  rw [funcNamed_eq, funcs_size, funcs_range]
  simp only [List.filter_append, nl0, nl1, nl2, nl3, nl4, nl5, nl6, nl7, nl8, nl9, nl10, nl11, nl12, nl13, nl14]
  all_goals rfl
/-! ### no variable waits for its own initialiser (what the start of the world asks of all functions) -/
theorem wait0 : fc0.flatMap waitR = [] := by kernel_rfl
theorem wait1 : fc1.flatMap waitR = [] := by kernel_rfl
theorem wait2 : fc2.flatMap waitR = [] := by kernel_rfl
theorem wait3 : fc3.flatMap waitR = [] := by kernel_rfl
theorem wait4 : fc4.flatMap waitR = [] := by kernel_rfl
theorem wait5 : fc5.flatMap waitR = [] := by kernel_rfl
theorem wait6 : fc6.flatMap waitR = [] := by kernel_rfl
theorem wait7 : fc7.flatMap waitR = [] := by kernel_rfl
theorem wait8 : fc8.flatMap waitR = [] := by kernel_rfl
theorem wait9 : fc9.flatMap waitR = [] := by kernel_rfl
theorem wait10 : fc10.flatMap waitR = [] := by kernel_rfl
theorem wait11 : fc11.flatMap waitR = [] := by kernel_rfl
theorem wait12 : fc12.flatMap waitR = [] := by kernel_rfl
theorem wait13 : fc13.flatMap waitR = [] := by kernel_rfl
theorem wait14 : fc14.flatMap waitR = [] := by kernel_rfl
theorem wait15 : fc15.flatMap waitR = [] := by kernel_rfl
theorem wait16 : fc16.flatMap waitR = [] := by kernel_rfl
theorem wait17 : fc17.flatMap waitR = [] := by kernel_rfl
theorem waits : waiting Tryz.checked.prog = Array.replicate Tryz.checked.prog.globals.size false := by
  rw [waiting_eq, fc_all, fcs_eq]
  simp only [List.flatten_cons, List.flatten_nil, List.flatMap_append, wait0, wait1, wait2, wait3, wait4, wait5, wait6, wait7, wait8, wait9, wait10, wait11, wait12, wait13, wait14, wait15, wait16, wait17, List.append_nil, List.foldl_nil]
/-! ### the facts -/
theorem later0 : fc0.any laterR = false := by kernel_rfl
theorem later1 : fc1.any laterR = false := by kernel_rfl
theorem later2 : fc2.any laterR = false := by kernel_rfl
theorem later3 : fc3.any laterR = false := by kernel_rfl
theorem later4 : fc4.any laterR = false := by kernel_rfl
theorem later5 : fc5.any laterR = false := by kernel_rfl
theorem later6 : fc6.any laterR = false := by kernel_rfl
theorem later7 : fc7.any laterR = false := by kernel_rfl
theorem later8 : fc8.any laterR = false := by kernel_rfl
theorem later9 : fc9.any laterR = false := by kernel_rfl
theorem later10 : fc10.any laterR = false := by kernel_rfl
theorem later11 : fc11.any laterR = false := by kernel_rfl
theorem later12 : fc12.any laterR = false := by kernel_rfl
theorem later13 : fc13.any laterR = false := by kernel_rfl
theorem later14 : fc14.any laterR = false := by kernel_rfl
theorem later15 : fc15.any laterR = false := by kernel_rfl
theorem later16 : fc16.any laterR = false := by kernel_rfl
theorem later17 : fc17.any laterR = false := by kernel_rfl
theorem later : Tryz.checked.prog.laysLater = false := by
  rw [laysLater_eq, fc_all]
  show ([fc0, fc1, fc2, fc3, fc4, fc5, fc6, fc7, fc8, fc9, fc10, fc11, fc12, fc13, fc14, fc15, fc16, fc17] : List (List Func)).flatten.any laterR = false
  simp only [List.any_flatten, List.any_cons, List.any_nil, later0, later1, later2, later3, later4, later5, later6, later7, later8, later9, later10, later11, later12, later13, later14, later15, later16, later17, Bool.or_false]
theorem reflN0 : fc0.any reflR = false := by kernel_rfl
theorem reflN1 : fc1.any reflR = false := by kernel_rfl
theorem reflN2 : fc2.any reflR = false := by kernel_rfl
theorem reflN3 : fc3.any reflR = false := by kernel_rfl
theorem reflN4 : fc4.any reflR = false := by kernel_rfl
theorem reflN5 : fc5.any reflR = false := by kernel_rfl
theorem reflN6 : fc6.any reflR = false := by kernel_rfl
theorem reflN7 : fc7.any reflR = false := by kernel_rfl
theorem reflN8 : fc8.any reflR = false := by kernel_rfl
theorem reflN9 : fc9.any reflR = false := by kernel_rfl
theorem reflN10 : fc10.any reflR = false := by kernel_rfl
theorem reflN11 : fc11.any reflR = false := by kernel_rfl
theorem reflN12 : fc12.any reflR = false := by kernel_rfl
theorem reflN13 : fc13.any reflR = false := by kernel_rfl
theorem reflN14 : fc14.any reflR = false := by kernel_rfl
theorem reflN15 : fc15.any reflR = false := by kernel_rfl
theorem reflN16 : fc16.any reflR = false := by kernel_rfl
theorem reflN17 : fc17.any reflR = false := by kernel_rfl
theorem reflN : Tryz.checked.prog.bearsReflect = false := by
  rw [bearsReflect_eq, fc_all]
  show ([fc0, fc1, fc2, fc3, fc4, fc5, fc6, fc7, fc8, fc9, fc10, fc11, fc12, fc13, fc14, fc15, fc16, fc17] : List (List Func)).flatten.any reflR = false
  simp only [List.any_flatten, List.any_cons, List.any_nil, reflN0, reflN1, reflN2, reflN3, reflN4, reflN5, reflN6, reflN7, reflN8, reflN9, reflN10, reflN11, reflN12, reflN13, reflN14, reflN15, reflN16, reflN17, Bool.or_false]
theorem hear0 : fc0.all hearR = true := by kernel_rfl
theorem hear1 : fc1.all hearR = true := by kernel_rfl
theorem hear2 : fc2.all hearR = true := by kernel_rfl
theorem hear3 : fc3.all hearR = true := by kernel_rfl
theorem hear4 : fc4.all hearR = true := by kernel_rfl
theorem hear5 : fc5.all hearR = true := by kernel_rfl
theorem hear6 : fc6.all hearR = true := by kernel_rfl
theorem hear7 : fc7.all hearR = true := by kernel_rfl
theorem hear8 : fc8.all hearR = true := by kernel_rfl
theorem hear9 : fc9.all hearR = true := by kernel_rfl
theorem hear10 : fc10.all hearR = true := by kernel_rfl
theorem hear11 : fc11.all hearR = true := by kernel_rfl
theorem hear12 : fc12.all hearR = true := by kernel_rfl
theorem hear13 : fc13.all hearR = true := by kernel_rfl
theorem hear14 : fc14.all hearR = true := by kernel_rfl
theorem hear15 : fc15.all hearR = true := by kernel_rfl
theorem hear16 : fc16.all hearR = true := by kernel_rfl
theorem hear17 : fc17.all hearR = true := by kernel_rfl
theorem stopsHeard : Tryz.checked.prog.stopsHeard = true := by
  rw [stopsHeard_eq, fc_all]
  show ([fc0, fc1, fc2, fc3, fc4, fc5, fc6, fc7, fc8, fc9, fc10, fc11, fc12, fc13, fc14, fc15, fc16, fc17] : List (List Func)).flatten.all hearR = true
  simp only [List.all_flatten, List.all_cons, List.all_nil, hear0, hear1, hear2, hear3, hear4, hear5, hear6, hear7, hear8, hear9, hear10, hear11, hear12, hear13, hear14, hear15, hear16, hear17, Bool.and_true]
theorem door0 : fc0.filter doorR = [] := by kernel_rfl
theorem door1 : fc1.filter doorR = [] := by kernel_rfl
theorem door2 : fc2.filter doorR = [] := by kernel_rfl
theorem door3 : fc3.filter doorR = [] := by kernel_rfl
theorem door4 : fc4.filter doorR = [] := by kernel_rfl
theorem door5 : fc5.filter doorR = [] := by kernel_rfl
theorem door6 : fc6.filter doorR = [] := by kernel_rfl
theorem door7 : fc7.filter doorR = [] := by kernel_rfl
theorem door8 : fc8.filter doorR = [] := by kernel_rfl
theorem door9 : fc9.filter doorR = [] := by kernel_rfl
theorem door10 : fc10.filter doorR = [] := by kernel_rfl
theorem door11 : fc11.filter doorR = [] := by kernel_rfl
theorem door12 : fc12.filter doorR = [] := by kernel_rfl
theorem door13 : fc13.filter doorR = [] := by kernel_rfl
theorem door14 : fc14.filter doorR = [] := by kernel_rfl
theorem door15 : fc15.filter doorR = [] := by kernel_rfl
theorem door16 : fc16.filter doorR = [] := by kernel_rfl
theorem door17 : fc17.filter doorR = [Tryz.f882, Tryz.f883, Tryz.f884, Tryz.f885, Tryz.f886, Tryz.f887, Tryz.f888, Tryz.f889, Tryz.f890] := by kernel_rfl
theorem doors : Tryz.checked.prog.doorRows = ([Tryz.f882, Tryz.f883, Tryz.f884, Tryz.f885, Tryz.f886, Tryz.f887, Tryz.f888, Tryz.f889, Tryz.f890] : List Func).map fun fn => (nameBytes fn.name).reverse := by
  rw [doorRows_eq, fc_all]
  show (([fc0, fc1, fc2, fc3, fc4, fc5, fc6, fc7, fc8, fc9, fc10, fc11, fc12, fc13, fc14, fc15, fc16, fc17] : List (List Func)).flatten.filter doorR).map _ = _
  simp only [List.flatten_cons, List.flatten_nil, List.filter_append, List.filter_nil, door0, door1, door2, door3, door4, door5, door6, door7, door8, door9, door10, door11, door12, door13, door14, door15, door16, door17]
  all_goals rfl
theorem mayEnter : Tryz.checked.prog.mayEnter = true := by
  unfold Program.mayEnter Program.doorFits
  rw [later, reflN, doors]
  kernel_rfl
theorem mapr0 : (List.range' 0 80).all (mapR Tryz.checked.prog) = true := by kernel_rfl
theorem mapr1 : (List.range' 80 80).all (mapR Tryz.checked.prog) = true := by kernel_rfl
theorem mapr2 : (List.range' 160 80).all (mapR Tryz.checked.prog) = true := by kernel_rfl
theorem mapr3 : (List.range' 240 80).all (mapR Tryz.checked.prog) = true := by kernel_rfl
theorem mapr4 : (List.range' 320 80).all (mapR Tryz.checked.prog) = true := by kernel_rfl
theorem mapr5 : (List.range' 400 80).all (mapR Tryz.checked.prog) = true := by kernel_rfl
theorem mapr6 : (List.range' 480 80).all (mapR Tryz.checked.prog) = true := by kernel_rfl
theorem mapr7 : (List.range' 560 80).all (mapR Tryz.checked.prog) = true := by kernel_rfl
theorem mapr8 : (List.range' 640 80).all (mapR Tryz.checked.prog) = true := by kernel_rfl
theorem mapr9 : (List.range' 720 80).all (mapR Tryz.checked.prog) = true := by kernel_rfl
theorem mapr10 : (List.range' 800 80).all (mapR Tryz.checked.prog) = true := by kernel_rfl
theorem mapr11 : (List.range' 880 26).all (mapR Tryz.checked.prog) = true := by kernel_rfl
theorem types_size : Tryz.checked.prog.types.size = 906 := by kernel_rfl
theorem types_range : List.range 906 = List.range' 0 80 ++ List.range' 80 80 ++ List.range' 160 80 ++ List.range' 240 80 ++ List.range' 320 80 ++ List.range' 400 80 ++ List.range' 480 80 ++ List.range' 560 80 ++ List.range' 640 80 ++ List.range' 720 80 ++ List.range' 800 80 ++ List.range' 880 26 := by kernel_rfl
theorem mapsRow : mapsRowed Tryz.checked.prog = true := by
  rw [mapsRowed_eq, types_size, types_range]
  simp only [List.all_append, Bool.and_eq_true]
  exact ⟨⟨⟨⟨⟨⟨⟨⟨⟨⟨⟨mapr0, mapr1⟩, mapr2⟩, mapr3⟩, mapr4⟩, mapr5⟩, mapr6⟩, mapr7⟩, mapr8⟩, mapr9⟩, mapr10⟩, mapr11⟩
theorem ldo_0 : (List.range' 0 60).all (rowFine Tryz.checked.prog) = true := by kernel_rfl
theorem ldo_1 : (List.range' 60 60).all (rowFine Tryz.checked.prog) = true := by kernel_rfl
theorem ldo_2 : (List.range' 120 60).all (rowFine Tryz.checked.prog) = true := by kernel_rfl
theorem ldo_3 : (List.range' 180 60).all (rowFine Tryz.checked.prog) = true := by kernel_rfl
theorem ldo_4 : (List.range' 240 60).all (rowFine Tryz.checked.prog) = true := by kernel_rfl
theorem ldo_5 : (List.range' 300 60).all (rowFine Tryz.checked.prog) = true := by kernel_rfl
theorem ldo_6 : (List.range' 360 60).all (rowFine Tryz.checked.prog) = true := by kernel_rfl
theorem ldo_7 : (List.range' 420 60).all (rowFine Tryz.checked.prog) = true := by kernel_rfl
theorem ldo_8 : (List.range' 480 60).all (rowFine Tryz.checked.prog) = true := by kernel_rfl
theorem ldo_9 : (List.range' 540 60).all (rowFine Tryz.checked.prog) = true := by kernel_rfl
theorem ldo_10 : (List.range' 600 60).all (rowFine Tryz.checked.prog) = true := by kernel_rfl
theorem ldo_11 : (List.range' 660 60).all (rowFine Tryz.checked.prog) = true := by kernel_rfl
theorem ldo_12 : (List.range' 720 60).all (rowFine Tryz.checked.prog) = true := by kernel_rfl
theorem ldo_13 : (List.range' 780 60).all (rowFine Tryz.checked.prog) = true := by kernel_rfl
theorem ldo_14 : (List.range' 840 60).all (rowFine Tryz.checked.prog) = true := by kernel_rfl
theorem ldo_15 : (List.range' 900 6).all (rowFine Tryz.checked.prog) = true := by kernel_rfl
theorem ldo_range : List.range 906 = List.range' 0 60 ++ List.range' 60 60 ++ List.range' 120 60 ++ List.range' 180 60 ++ List.range' 240 60 ++ List.range' 300 60 ++ List.range' 360 60 ++ List.range' 420 60 ++ List.range' 480 60 ++ List.range' 540 60 ++ List.range' 600 60 ++ List.range' 660 60 ++ List.range' 720 60 ++ List.range' 780 60 ++ List.range' 840 60 ++ List.range' 900 6 := by kernel_rfl
theorem ldo_g : (Tryz.checked.prog.globals.all fun g => decide (g.type < Tryz.checked.prog.types.size)) = true := by kernel_rfl
theorem ldo_f : (Tryz.checked.prog.funcs.all fun f => f.params.all fun t => decide (t < Tryz.checked.prog.types.size)) = true := by kernel_rfl
theorem laidOut : laidOutB Tryz.checked.prog = true := by
  unfold laidOutB
  rw [ldo_g, ldo_f, Bool.and_true, Bool.and_true, types_size, ldo_range]
  simp only [List.all_append, Bool.and_eq_true]
  exact ⟨⟨⟨⟨⟨⟨⟨⟨⟨⟨⟨⟨⟨⟨⟨ldo_0, ldo_1⟩, ldo_2⟩, ldo_3⟩, ldo_4⟩, ldo_5⟩, ldo_6⟩, ldo_7⟩, ldo_8⟩, ldo_9⟩, ldo_10⟩, ldo_11⟩, ldo_12⟩, ldo_13⟩, ldo_14⟩, ldo_15⟩
theorem inp0 : Tryz.checked.prog.inPlaceOf cl0 = [Tryz.f118.name, Tryz.f68.name, Tryz.f39.name] := by kernel_rfl
theorem inp1 : Tryz.checked.prog.inPlaceOf cl1 = [] := by kernel_rfl
theorem inp2 : Tryz.checked.prog.inPlaceOf cl2 = [] := by kernel_rfl
theorem inp3 : Tryz.checked.prog.inPlaceOf cl3 = [] := by kernel_rfl
theorem inp4 : Tryz.checked.prog.inPlaceOf cl4 = [] := by kernel_rfl
theorem inp5 : Tryz.checked.prog.inPlaceOf cl5 = [] := by kernel_rfl
theorem inp6 : Tryz.checked.prog.inPlaceOf cl6 = [] := by kernel_rfl
theorem inp7 : Tryz.checked.prog.inPlaceOf cl7 = [] := by kernel_rfl
theorem inp8 : Tryz.checked.prog.inPlaceOf cl8 = [] := by kernel_rfl
theorem inp9 : Tryz.checked.prog.inPlaceOf cl9 = [Tryz.f268.name] := by kernel_rfl
theorem inp10 : Tryz.checked.prog.inPlaceOf cl10 = [Tryz.f350.name, Tryz.f328.name] := by kernel_rfl
theorem cls_app : cls.flatten = cl0 ++ (cl1 ++ (cl2 ++ (cl3 ++ (cl4 ++ (cl5 ++ (cl6 ++ (cl7 ++ (cl8 ++ (cl9 ++ (cl10)))))))))) := by
  show ([cl0, cl1, cl2, cl3, cl4, cl5, cl6, cl7, cl8, cl9, cl10] : List (List Nat)).flatten = _
  simp only [List.flatten_cons, List.flatten_nil, List.append_nil]
theorem inPlace_eq : Tryz.checked.prog.inPlace 3 = Rows.consoleNilRow.inPlace := by
  show Tryz.checked.prog.inPlaceOf (Tryz.checked.prog.closure 3) = _
  rw [clo, cls_app]
  simp only [inPlaceOf_append, inp0, inp1, inp2, inp3, inp4, inp5, inp6, inp7, inp8, inp9, inp10]
  all_goals kernel_rfl
theorem inPlace : (Rows.consoleNilRow.inPlace == Tryz.checked.prog.inPlace 3) = true := by rw [inPlace_eq]; exact beq_self_eq_true _
theorem glo0 : cl0.flatMap (gloR Tryz.checked.prog) = [0, 0, 0, 1, 4, 5] := by kernel_rfl
theorem glo1 : cl1.flatMap (gloR Tryz.checked.prog) = [] := by kernel_rfl
theorem glo2 : cl2.flatMap (gloR Tryz.checked.prog) = [] := by kernel_rfl
theorem glo3 : cl3.flatMap (gloR Tryz.checked.prog) = [2, 3] := by kernel_rfl
theorem glo4 : cl4.flatMap (gloR Tryz.checked.prog) = [] := by kernel_rfl
theorem glo5 : cl5.flatMap (gloR Tryz.checked.prog) = [] := by kernel_rfl
theorem glo6 : cl6.flatMap (gloR Tryz.checked.prog) = [] := by kernel_rfl
theorem glo7 : cl7.flatMap (gloR Tryz.checked.prog) = [] := by kernel_rfl
theorem glo8 : cl8.flatMap (gloR Tryz.checked.prog) = [] := by kernel_rfl
theorem glo9 : cl9.flatMap (gloR Tryz.checked.prog) = [] := by kernel_rfl
theorem glo10 : cl10.flatMap (gloR Tryz.checked.prog) = [6, 7] := by kernel_rfl
theorem ear0 : cl0.filterMap (earR Tryz.checked.prog) = ["internal/bytealg.MaxLen"] := by kernel_rfl
theorem ear1 : cl1.filterMap (earR Tryz.checked.prog) = [] := by kernel_rfl
theorem ear2 : cl2.filterMap (earR Tryz.checked.prog) = [] := by kernel_rfl
theorem ear3 : cl3.filterMap (earR Tryz.checked.prog) = [] := by kernel_rfl
theorem ear4 : cl4.filterMap (earR Tryz.checked.prog) = [] := by kernel_rfl
theorem ear5 : cl5.filterMap (earR Tryz.checked.prog) = [] := by kernel_rfl
theorem ear6 : cl6.filterMap (earR Tryz.checked.prog) = [] := by kernel_rfl
theorem ear7 : cl7.filterMap (earR Tryz.checked.prog) = [] := by kernel_rfl
theorem ear8 : cl8.filterMap (earR Tryz.checked.prog) = [] := by kernel_rfl
theorem ear9 : cl9.filterMap (earR Tryz.checked.prog) = [] := by kernel_rfl
theorem ear10 : cl10.filterMap (earR Tryz.checked.prog) = [] := by kernel_rfl
theorem glo_dups : (cls.flatten.flatMap (gloR Tryz.checked.prog)).eraseDups = [0, 1, 4, 5, 2, 3, 6, 7] := by
  rw [cls_app]
  simp only [List.flatMap_append, glo0, glo1, glo2, glo3, glo4, glo5, glo6, glo7, glo8, glo9, glo10]
  all_goals kernel_rfl
theorem ear_all : cls.flatten.filterMap (earR Tryz.checked.prog) = ["internal/bytealg.MaxLen"] := by
  rw [cls_app]
  simp only [List.filterMap_append, ear0, ear1, ear2, ear3, ear4, ear5, ear6, ear7, ear8, ear9, ear10]
  all_goals rfl
theorem named_eq : Tryz.checked.prog.varsNamed 3 = Rows.consoleNilRow.named := by
  show Tryz.checked.prog.varsOf (Tryz.checked.prog.closure 3) = _
  rw [clo, varsOf_eq, glo_dups, ear_all]
  kernel_rfl
theorem named : (Rows.consoleNilRow.named == Tryz.checked.prog.varsNamed 3) = true := by rw [named_eq]; exact beq_self_eq_true _
theorem unf : Tryz.checked.prog.unfollowed 3 = true := by
  rw [unfollowed_eq, clo]
  exact List.any_eq_true.2 ⟨5, List.contains_iff_mem.1 (by kernel_rfl), by kernel_rfl⟩
theorem unfollowed : (Rows.consoleNilRow.unfollowed == Tryz.checked.prog.unfollowed 3) = true := by rw [unf]; rfl
theorem recurses : (Rows.consoleNilRow.recurses == Tryz.checked.prog.recurses 3) = true := by unfold Program.recurses; rw [unf]; rfl
end Go.Proofs.YtlfljoeafpimpaaGreatDoor.Clo
