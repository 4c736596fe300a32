/-
  WHAT IS PROVED HERE: eval.Filter returns what a plain function on strings gives, for every name. Conditions: the string has at most 2^40 bytes; strconv's table of powers of ten lies in memory.
-/
import Derived.Test.YtlkaikopjjmneaaDoorSent2
import Derived.WalkSmall
namespace Go.Proofs.YtlkaikopjjmneaaDoor
open Go.RowKit Go.Sort

def nUpper : List UInt8 := [117, 112, 112, 101, 114]
def nLower : List UInt8 := [108, 111, 119, 101, 114]
def nTrim : List UInt8 := [116, 114, 105, 109]
def nFirst : List UInt8 := [102, 105, 114, 115, 116]
def nShort : List UInt8 := [115, 104, 111, 114, 116]
def nSlug : List UInt8 := [115, 108, 117, 103]
def nEscape : List UInt8 := [101, 115, 99, 97, 112, 101]
def nLength : List UInt8 := [108, 101, 110, 103, 116, 104]
def firstF (s : ByteArray) : List UInt8 := (sentF s).headD []
/-- what Filter gives; none: there is no such filter -/
def filterF (name : ByteArray) (s : ByteArray) : Option (List UInt8) :=
  if name.toList == [117, 112, 112, 101, 114] then some (s.data.toList.map (chg 97 122))
  else if name.toList == [108, 111, 119, 101, 114] then some (s.data.toList.map (chg 65 90))
  else if name.toList == [116, 114, 105, 109] then some (Lib.trimB s.data.toList 32)
  else if name.toList == [102, 105, 114, 115, 116] then some (firstF s)
  else if name.toList == [115, 104, 111, 114, 116] then some (shortF s.data.toList)
  else if name.toList == [115, 108, 117, 103] then some (slugF s.data.toList)
  else if name.toList == [101, 115, 99, 97, 112, 101] then some (escF s.data.toList)
  else if name.toList == [108, 101, 110, 103, 116, 104] then some (Lib.itoa s.size)
  else none

/-- strconv's table of powers of ten lies in memory -/
def Tab (w : World) : Prop := Lib.TabIs Tryd.prog w "internal/strconv.uint64pow10" .u64 Lib.pow10Tab
def fltRes : Option (List UInt8) → Value
  | some r => .tuple #[.string (bs r), .bool true]
  | none => .tuple #[.string ⟨#[]⟩, .bool false]
theorem ret_flt {r : Option (List UInt8)} {v : Value} (h : fltRes r = v) : Ending.returned v = .returned (fltRes r) := by rw [h]

theorem below_grow (w : World) (k : Nat) (os : Array Obj) : Below w.heap.size w (grow (w.drewN k) os) :=
  ⟨rfl, rfl, rfl, by simp [grow], fun i hi => by simp [grow, Array.getElem?_append_left, hi]⟩
theorem itoa_any (n : Int) (h0 : 0 ≤ n) (h1 : n ≤ 1099511627776) (w : World) (ht : Tab w) :
    Calls Tryd.prog 33 #[.int .i64 n] w fun e w' => e = .returned (.string (bs (Lib.itoa n))) ∧ Below w.heap.size w w' :=
  (Tryd.strconv_Itoa n (by omega) (by omega) w ht).mono fun e w' h => ⟨h.1, by obtain ⟨k, os, rfl⟩ := h.2; exact below_grow w k os⟩
theorem trim_any (s : ByteArray) (hs : s.size ≤ 1099511627776) (w : World) :
    Calls Tryd.prog 29 #[.string s, .string ⟨#[32]⟩] w fun e w' => e = .returned (.string (bs (Lib.trimB s.data.toList 32))) ∧ Below w.heap.size w w' :=
  (Tryd.strings_Trim_one s 32 (by decide) w (by omega)).mono fun e w' h => ⟨h.1, by
    rcases h.2 with e | e
    · subst e; exact Below.refl _ _
    · subst e; exact (Below.refl _ _).drew⟩

theorem SRow.cases {w : World} {B : Nat} {v : Value} {l : List (List UInt8)} (h : SRow w B v l) : (l = [] ∧ ∃ a cap, v = .slice a 0 cap) ∨
    (∃ x r g cap, l = x :: r ∧ v = .slice (some ⟨g, 0, none⟩) (r.length + 1) cap ∧ w.cell? ⟨g, 0, none⟩ = some (.string (bs x))) := by
  rcases l with _ | ⟨x, r⟩
  · left
    rcases h.2 with ⟨h1, _⟩ | ⟨g, cap, cur, h1, _⟩
    · exact ⟨rfl, _, _, h1⟩
    · exact ⟨rfl, _, _, h1⟩
  · right
    obtain ⟨g, cap, h1⟩ := ownsRow_succ h
    refine ⟨x, r, g, cap, rfl, h1, ?_⟩
    have := World.ownsRow.cells h (g := g) (by rw [h1]; rfl) 0 (encStr x) (by simp)
    rwa [Addr.add_lit, Nat.zero_add] at this

theorem upper_any (s : ByteArray) (hs : s.size ≤ 1099511627776) (w : World) : Calls Tryd.prog 28 #[.string s, .int .u8 97, .int .u8 122] w fun e w' => e = .returned (.string (bs (s.data.toList.map (chg 97 122)))) ∧ Below w.heap.size w w' := change_any s 97 122 w hs
theorem lower_any (s : ByteArray) (hs : s.size ≤ 1099511627776) (w : World) : Calls Tryd.prog 28 #[.string s, .int .u8 65, .int .u8 90] w fun e w' => e = .returned (.string (bs (s.data.toList.map (chg 65 90)))) ∧ Below w.heap.size w w' := change_any s 65 90 w hs
set_option maxRecDepth 100000 in
set_option maxHeartbeats 2000000 in
theorem filter_any (name s : ByteArray) (hs : s.size ≤ 1099511627776) (w : World) (ht : Tab w) :
    Calls Tryd.prog 20 #[.string name, .string s] w fun e w' => e = .returned (fltRes (filterF name s)) ∧ Below w.heap.size w w' := by
  have HT := Lib.hid ht
  clear ht
  go_enter Tryd.func20, Tryd.ntmps20
  go_wp2_with (first
    | (go_at_call 28; (with_reducible refine (upper_any s hs _).mono ?_); rintro e w' ⟨rfl, hb⟩)
    | (go_at_call 28; (with_reducible refine (lower_any s hs _).mono ?_); rintro e w' ⟨rfl, hb⟩)
    | (go_at_call 29; refine (trim_any s hs _).mono ?_; rintro e w' ⟨rfl, hb⟩)
    | (go_at_call 22; refine (Sentences_any s hs _).mono ?_; rintro e w' ⟨v, rfl, hr, hb⟩; rcases hr.cases with ⟨h1, a, cap, rfl⟩ | ⟨x, r, g, cap, h1, rfl, hc⟩ <;> (have HL := Lib.hid h1; clear h1 hr))
    | (go_at_call 30; refine (short_any s _ hs).mono ?_; rintro e w' ⟨rfl, rfl⟩)
    | (go_at_call 31; refine (slug_any s _ hs).mono ?_; rintro e w' ⟨rfl, hb⟩)
    | (go_at_call 32; refine (escape_any s _ hs).mono ?_; rintro e w' ⟨rfl, hb⟩)
    | (go_at_call 33; refine (itoa_any s.size (by omega) (by omega) _ HT.out).mono ?_; rintro e w' ⟨rfl, hb⟩))
  all_goals
    go_ret2
    refine ⟨ret_flt ?_, by first | assumption | exact Below.refl _ _⟩
    unfold filterF
    simp only [*, if_true, if_false, Bool.false_eq_true]
    first | rfl | (unfold firstF; rw [HL.out]; rfl)
end Go.Proofs.YtlkaikopjjmneaaDoor
