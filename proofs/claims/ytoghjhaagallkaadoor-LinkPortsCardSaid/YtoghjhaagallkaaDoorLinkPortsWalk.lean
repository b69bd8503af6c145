/- LinkPorts: the walk. -/
import Derived.Test.YtoghjhaagallkaaDoorWakes8
import Derived.OpenShut
namespace Go.Proofs.YtoghjhaagallkaaDoor.link
open Go.ChangeShapes Go.WideShapes Go.ChangeAt Go.RowKit Go.Lib

def blankB (c : UInt8) : Bool := (c == 9) || (c == 10) || (c == 12) || (c == 13) || (c == 32)
set_option maxHeartbeats 800000 in
theorem rblank_any (c : UInt8) (w : World) :
    Calls Tryd.prog 18 #[.int .u8 c.toNat] w fun e w' => e = .returned (.bool (blankB c)) ∧ w = w' := by
  have hv : blankB c = ((((c.toNat : Int) == 9) || ((c.toNat : Int) == 10)) || ((c.toNat : Int) == 12) || ((c.toNat : Int) == 13) || ((c.toNat : Int) == 32)) := by
    unfold blankB
    rw [byteq c 9 9 rfl, byteq c 10 10 rfl, byteq c 12 12 rfl, byteq c 13 13 rfl, byteq c 32 32 rfl]
  rw [hv]
  clear hv
  generalize g9 : ((c.toNat : Int) == 9) = x9
  generalize g10 : ((c.toNat : Int) == 10) = x10
  generalize g12 : ((c.toNat : Int) == 12) = x12
  generalize g13 : ((c.toNat : Int) == 13) = x13
  generalize g32 : ((c.toNat : Int) == 32) = x32
  cases x9
  · cases x10
    · cases x12
      · cases x13
        all_goals
          go_enter Tryd.func18, Tryd.ntmps18
          go_wp2_with fail
          go_ret
          exact ⟨rfl, rfl⟩
      · go_enter Tryd.func18, Tryd.ntmps18
        go_wp2_with fail
        go_ret
        exact ⟨rfl, rfl⟩
    · go_enter Tryd.func18, Tryd.ntmps18
      go_wp2_with fail
      go_ret
      exact ⟨rfl, rfl⟩
  · go_enter Tryd.func18, Tryd.ntmps18
    go_wp2_with fail
    go_ret
    exact ⟨rfl, rfl⟩

/-- is there a byte for which the law says nothing? -/
def badP : Bool → List UInt8 → Bool
  | _, [] => false
  | sh, c :: r => (blankB c || (c == 47) || (c == 63) || (c == 35) || (c == 64) || ((c == 58) && (sh || (c == 93)))) || badP (sh || (c == 93)) r

theorem badP_not (h : List UInt8) : ∀ sh, badP sh h = false → (64 : UInt8) ∉ h ∧ (47 : UInt8) ∉ h ∧ (35 : UInt8) ∉ h ∧ (63 : UInt8) ∉ h ∧ (∀ a b, h = a ++ 58 :: b → sh = false ∧ (93 : UInt8) ∉ a) := by
  induction h with
  | nil => intro sh _; refine ⟨by simp, by simp, by simp, by simp, ?_⟩; intro a b e; cases a <;> cases e
  | cons c r ih =>
    intro sh hb
    rw [badP] at hb
    rw [Bool.or_eq_false_iff] at hb
    obtain ⟨h1, h2⟩ := hb
    simp only [Bool.or_eq_false_iff, beq_eq_false_iff_ne, ne_eq] at h1
    obtain ⟨⟨⟨⟨⟨_, n47⟩, n63⟩, n35⟩, n64⟩, n58⟩ := h1
    obtain ⟨i1, i2, i3, i4, i5⟩ := ih _ h2
    have hne : ∀ d : UInt8, ¬ c = d → d ∉ r → d ∉ c :: r := by
      intro d g1 g2
      simp only [List.mem_cons, not_or]; exact ⟨fun e => g1 e.symm, g2⟩
    refine ⟨hne _ n64 i1, hne _ n47 i2, hne _ n35 i3, hne _ n63 i4, ?_⟩
    intro a b e
    cases a with
    | nil =>
      obtain ⟨rfl, rfl⟩ := List.cons.inj e
      refine ⟨?_, by simp⟩
      rw [Bool.and_eq_false_iff] at n58
      rcases n58 with g | g
      · exact absurd g (by decide)
      · rw [Bool.or_eq_false_iff] at g; exact g.1
    | cons x a =>
      obtain ⟨rfl, e2⟩ := List.cons.inj e
      obtain ⟨j1, j2⟩ := i5 a b e2
      rw [Bool.or_eq_false_iff] at j1
      refine ⟨j1.1, ?_⟩
      have := j1.2
      simp only [List.mem_cons, not_or]
      exact ⟨fun g => by subst g; simp at this, j2⟩

def shut0 (h : List UInt8) : Bool := !(h.head? == some 91)
theorem bad_colon (h : List UInt8) (hb : badP (shut0 h) h = false) : (64 : UInt8) ∉ h ∧ (47 : UInt8) ∉ h ∧ (35 : UInt8) ∉ h ∧ (63 : UInt8) ∉ h ∧ ColonOk h := by
  obtain ⟨h1, h2, h3, h4, h5⟩ := badP_not h _ hb
  refine ⟨h1, h2, h3, h4, fun a b e => ?_⟩
  obtain ⟨g1, g2⟩ := h5 a b e
  refine ⟨?_, g2⟩
  unfold shut0 at g1
  simpa using g1

/-- the five digits of a port -/
def portD (p : Nat) : List UInt8 := [UInt8.ofNat (48 + p / 10000), UInt8.ofNat (48 + p / 1000 % 10), UInt8.ofNat (48 + p / 100 % 10), UInt8.ofNat (48 + p / 10 % 10), UInt8.ofNat (48 + p % 10)]
theorem digC_of (d : Nat) (h : d < 10) : digC (UInt8.ofNat (48 + d)) = true ∧ (UInt8.ofNat (48 + d)).toNat = 48 + d := by
  have e : (UInt8.ofNat (48 + d)).toNat = 48 + d := by simp; omega
  refine ⟨?_, e⟩
  unfold digC
  rw [e]; simp; omega
theorem portD_val (p : Nat) (hp : p ≤ 65535) : digsB (portD p) = true ∧ valN 0 (portD p) ≤ 65535 := by
  obtain ⟨a1, a2⟩ := digC_of (p / 10000) (by omega)
  obtain ⟨b1, b2⟩ := digC_of (p / 1000 % 10) (by omega)
  obtain ⟨c1, c2⟩ := digC_of (p / 100 % 10) (by omega)
  obtain ⟨d1, d2⟩ := digC_of (p / 10 % 10) (by omega)
  obtain ⟨e1, e2⟩ := digC_of (p % 10) (by omega)
  constructor
  · unfold digsB portD
    simp only [digsA, a1, b1, c1, d1, e1]
    rfl
  · rw [valN_dec 65535 (by decide)]
    unfold portD
    rw [decV_cons, decV_cons, decV_cons, decV_cons, decV_cons, a2, b2, c2, d2, e2]
    show _ ≤ _
    simp only [decV]
    omega

theorem conv5 (w : World) (n0 n1 n2 n3 n4 : Int) (c0 c1 c2 c3 c4 : UInt8) (h0 : n0 = (c0.toNat : Int)) (h1 : n1 = (c1.toNat : Int)) (h2 : n2 = (c2.toNat : Int)) (h3 : n3 = (c3.toNat : Int)) (h4 : n4 = (c4.toNat : Int)) :
    (convert 29 9 (.slice (some ⟨w.heap.size, 0, none⟩) 5 5)).run Tryd.prog (w.alloc (.cells #[.int .u8 n0, .int .u8 n1, .int .u8 n2, .int .u8 n3, .int .u8 n4] 5)) = .ok (.string ⟨[c0, c1, c2, c3, c4].toArray⟩) (w.alloc (.cells #[.int .u8 n0, .int .u8 n1, .int .u8 n2, .int .u8 n3, .int .u8 n4] 5)) := by
  subst h0 h1 h2 h3 h4
  refine run_convert_bytes_back (P := Tryd.prog) (w.alloc (.cells #[.int .u8 c0.toNat, .int .u8 c1.toNat, .int .u8 c2.toNat, .int .u8 c3.toNat, .int .u8 c4.toNat] 5)) 29 9 5 ⟨w.heap.size, 0, none⟩ 5 [c0, c1, c2, c3, c4] Tryd.underlying29 Tryd.underlying5 Tryd.underlying9 (fun j hj => ?_)
  rw [Lib.add_plain, World.cell?_alloc_new]
  have hj5 : j < 5 := hj
  match j, hj5 with
  | 0, _ => rfl
  | 1, _ => rfl
  | 2, _ => rfl
  | 3, _ => rfl
  | 4, _ => rfl

theorem u16_small (n : Int) (h0 : 0 ≤ n) (h : n ≤ 65535) : IntKind.u16.wrap n = n := by
  have e : IntKind.u16.wrap n = n % 65536 := by simp [IntKind.wrap, IntKind.signed, IntKind.bits]
  rw [e]; omega
theorem dig_small (d : Nat) (h : d < 10) : (48 + (d : Int)) % 256 = ((UInt8.ofNat (48 + d)).toNat : Int) := by
  rw [(digC_of d h).2]; omega
theorem port_bytes (p : Nat) (hp : p ≤ 65535) :
    IntKind.u16.wrap (48 + IntKind.u16.wrap ((p : Int).tdiv 10000)) % 256 = ((UInt8.ofNat (48 + p / 10000)).toNat : Int) ∧
    IntKind.u16.wrap (48 + (IntKind.u16.wrap ((p : Int).tdiv 1000)).tmod 10) % 256 = ((UInt8.ofNat (48 + p / 1000 % 10)).toNat : Int) ∧
    IntKind.u16.wrap (48 + (IntKind.u16.wrap ((p : Int).tdiv 100)).tmod 10) % 256 = ((UInt8.ofNat (48 + p / 100 % 10)).toNat : Int) ∧
    IntKind.u16.wrap (48 + (IntKind.u16.wrap ((p : Int).tdiv 10)).tmod 10) % 256 = ((UInt8.ofNat (48 + p / 10 % 10)).toNat : Int) := by
  have e1 : (p : Int).tdiv 10000 = ((p / 10000 : Nat) : Int) := by rw [Int.tdiv_eq_ediv_of_nonneg (by omega)]; rfl
  have e2 : (p : Int).tdiv 1000 = ((p / 1000 : Nat) : Int) := by rw [Int.tdiv_eq_ediv_of_nonneg (by omega)]; rfl
  have e3 : (p : Int).tdiv 100 = ((p / 100 : Nat) : Int) := by rw [Int.tdiv_eq_ediv_of_nonneg (by omega)]; rfl
  have e4 : (p : Int).tdiv 10 = ((p / 10 : Nat) : Int) := by rw [Int.tdiv_eq_ediv_of_nonneg (by omega)]; rfl
  have m2 : ((p / 1000 : Nat) : Int).tmod 10 = ((p / 1000 % 10 : Nat) : Int) := by rw [Int.tmod_eq_emod_of_nonneg (by omega)]; rfl
  have m3 : ((p / 100 : Nat) : Int).tmod 10 = ((p / 100 % 10 : Nat) : Int) := by rw [Int.tmod_eq_emod_of_nonneg (by omega)]; rfl
  have m4 : ((p / 10 : Nat) : Int).tmod 10 = ((p / 10 % 10 : Nat) : Int) := by rw [Int.tmod_eq_emod_of_nonneg (by omega)]; rfl
  rw [e1, e2, e3, e4, u16_small ((p / 10000 : Nat) : Int) (by omega) (by omega), u16_small ((p / 1000 : Nat) : Int) (by omega) (by omega), u16_small ((p / 100 : Nat) : Int) (by omega) (by omega), u16_small ((p / 10 : Nat) : Int) (by omega) (by omega), m2, m3, m4]
  have d1 : p / 10000 < 10 := by omega
  have d2 : p / 1000 % 10 < 10 := by omega
  have d3 : p / 100 % 10 < 10 := by omega
  have d4 : p / 10 % 10 < 10 := by omega
  generalize p / 10000 = x1 at *
  generalize p / 1000 % 10 = x2 at *
  generalize p / 100 % 10 = x3 at *
  generalize p / 10 % 10 = x4 at *
  rw [u16_small (48 + (x1 : Int)) (by omega) (by omega), u16_small (48 + (x2 : Int)) (by omega) (by omega), u16_small (48 + (x3 : Int)) (by omega) (by omega), u16_small (48 + (x4 : Int)) (by omega) (by omega)]
  exact ⟨dig_small x1 d1, dig_small x2 d2, dig_small x3 d3, dig_small x4 d4⟩
theorem port_last (p : Nat) : (48 + (p : Int) % 10) = ((UInt8.ofNat (48 + p % 10)).toNat : Int) := by
  rw [(digC_of (p % 10) (by omega)).2]; omega

set_option maxHeartbeats 1600000 in
set_option maxRecDepth 100000 in
theorem ports_walk (s : List UInt8) (hs : (⟨s.toArray⟩ : ByteArray).size ≤ maxLen) (a : Int) (ha0 : (Lit.int .u16 a).wf = true) (w : World) (hG : G w) (hE : GE w) (hU : GU w) :
    Calls Tryd.prog 8 #[.string ⟨s.toArray⟩, .int .u16 a] w fun e w' => e = .returned (.bool true) ∧ Below w.heap.size w w' := by
  rw [bsize] at hs
  unfold maxLen at hs
  have ha := bounds_u16 ha0
  clear ha0
  go_enter Tryd.func8, Tryd.ntmps8
  go_wp2_with fail
  refine (wakes_any w hG hE hU).mono ?_
  rintro e w2 ⟨rfl, B02⟩
  go_wp2_with fail
  by_cases l1 : (8192 : Int) < s.length
  · have K1 := long_any s w2
    rw [decide_eq_true l1] at K1
    refine K1.mono ?_
    rintro e w' ⟨rfl, rfl⟩
    clear K1
    go_wp2_with fail
    go_ret
    exact ⟨rfl, B02⟩
  · have K1 := long_any s w2
    rw [decide_eq_false l1] at K1
    refine K1.mono ?_
    rintro e w' ⟨rfl, rfl⟩
    clear K1
    have hsl : s.length ≤ 8192 := by omega
    have HS0 : Hid ((s = [] ∧ shut0 s = true) ∨ (0 < s.length ∧ s.isEmpty = false ∧ ∃ c : UInt8, (∀ h', (⟨s.toArray⟩ : ByteArray)[0]'h' = c) ∧ shut0 s = ((c.toNat : Int) != 91))) := Lib.hid (by
      cases s with
      | nil => left; exact ⟨rfl, rfl⟩
      | cons c r =>
        right
        refine ⟨by simp, rfl, c, fun _ => rfl, ?_⟩
        unfold shut0
        rw [bne, byteq c 91 91 rfl]
        rfl)
    have A0 := fun wx (hG : G wx) (hE : GE wx) (hU : GU wx) => host_any s (by omega) wx hG hE hU
    have A1 := fun wx (hG : G wx) (hE : GE wx) (hU : GU wx) => abs_any (104 :: 116 :: 116 :: 112 :: 58 :: 47 :: 47 :: s) (by simp; omega) wx hG hE hU
    have A2 := fun wx (hG : G wx) (hE : GE wx) (hU : GU wx) => abs_any (104 :: 116 :: 116 :: 112 :: 58 :: 47 :: 47 :: (s ++ 58 :: (portD a.toNat ++ [47]))) (by simp [portD]; omega) wx hG hE hU
    have HQ : Hid (badP (shut0 s) s = false → absS (104 :: 116 :: 116 :: 112 :: 58 :: 47 :: 47 :: s) = hostS s ∧ absS (104 :: 116 :: 116 :: 112 :: 58 :: 47 :: 47 :: (s ++ 58 :: (portD a.toNat ++ [47]))) = hostS s) := Lib.hid (fun g => by
      obtain ⟨h1, h2, h3, h4, h5⟩ := bad_colon s g
      obtain ⟨p1, p2⟩ := portD_val a.toNat (by omega)
      exact ⟨abs_port0 s h5 h1 h2 h3 h4, abs_port s _ h1 h2 h3 h4 p1 p2⟩)
    generalize absS (104 :: 116 :: 116 :: 112 :: 58 :: 47 :: 47 :: s) = q1 at *
    generalize absS (104 :: 116 :: 116 :: 112 :: 58 :: 47 :: 47 :: (s ++ 58 :: (portD a.toNat ++ [47]))) = q2 at *
    generalize hostS s = q at *
    generalize hsh : shut0 s = sh0 at *
    clear hsh
    go_upto_region 5 with fail
    go_cut [5] (fun s5 wx => s5 = .bool sh0 ∧ wx = w2)
    case first =>
      rcases HS0.out with ⟨g1, g2⟩ | ⟨g1, g2, c, hc, g3⟩
      · subst g2
        subst g1
        go_wp2_with fail
        go_meet
        exact ⟨rfl, rfl⟩
      · have G3 := Lib.hid g3
        clear g3
        go_wp2_with fail
        go_meet
        exact ⟨by rw [G3.out], rfl⟩
    case rest =>
    obtain ⟨rfl, rfl⟩ := hcut
    clear HS0
    go_wp2_with fail
    go_loopw [5, 22] (fun s5 x wr => ∃ (k : Nat) (sh : Bool), s5 = .bool sh ∧ x = .int .i64 k ∧ k ≤ s.length ∧ Hid (badP sh0 s = badP sh (s.drop k)) ∧ wr = wc) (fun _ x _ => s.length - (RowKit.intOf x).toNat)
    case atStart => exact ⟨0, sh0, rfl, rfl, by omega, Lib.hid rfl, rfl⟩
    case round =>
      obtain ⟨k, sh, rfl, rfl, hk, hh, rfl⟩ := hrel
      by_cases hlt : k < s.length
      · obtain ⟨c, rest, hd1, hd2, hidx⟩ := byte_at s k hlt
        have hx := hh.out
        rw [hd1, badP, ← hd2, ← byteq c 47 47 rfl, ← byteq c 63 63 rfl, ← byteq c 35 35 rfl, ← byteq c 64 64 rfl, ← byteq c 58 58 rfl, ← byteq c 93 93 rfl] at hx
        have hbl := rblank_any c wr
        clear hh hd1 hd2
        generalize blankB c = bl at *
        generalize g47 : ((c.toNat : Int) == 47) = x47 at hx
        generalize g63 : ((c.toNat : Int) == 63) = x63 at hx
        generalize g35 : ((c.toNat : Int) == 35) = x35 at hx
        generalize g64 : ((c.toNat : Int) == 64) = x64 at hx
        generalize g58 : ((c.toNat : Int) == 58) = x58 at hx
        generalize g93 : ((c.toNat : Int) == 93) = x93 at hx
        have HX := Lib.hid hx
        clear hx
        cases sh
        · have t0 : True := trivial
          cases bl
          case true =>
            go_wp2_with fail
            refine hbl.mono ?_
            rintro e w' ⟨rfl, rfl⟩
            go_wp2_with fail
            go_ret
            exact ⟨rfl, B02⟩
          cases x47
          case true =>
            go_wp2_with fail
            refine hbl.mono ?_
            rintro e w' ⟨rfl, rfl⟩
            go_wp2_with fail
            go_ret
            exact ⟨rfl, B02⟩
          cases x63
          case true =>
            go_wp2_with fail
            refine hbl.mono ?_
            rintro e w' ⟨rfl, rfl⟩
            go_wp2_with fail
            go_ret
            exact ⟨rfl, B02⟩
          cases x35
          case true =>
            go_wp2_with fail
            refine hbl.mono ?_
            rintro e w' ⟨rfl, rfl⟩
            go_wp2_with fail
            go_ret
            exact ⟨rfl, B02⟩
          cases x64
          case true =>
            go_wp2_with fail
            refine hbl.mono ?_
            rintro e w' ⟨rfl, rfl⟩
            go_wp2_with fail
            go_ret
            exact ⟨rfl, B02⟩
          cases x58
          case false =>
            have HY : Hid (badP sh0 s = badP x93 (s.drop (k + 1))) := Lib.hid (by rw [HX.out]; rfl)
            go_wp2_with fail
            refine hbl.mono ?_
            rintro e w' ⟨rfl, rfl⟩
            go_wp2_with fail
            go_roundw
            case rel => exact ⟨k + 1, x93, rfl, by go_num, by omega, HY, by first | rfl | trivial⟩
            case measure => simp [RowKit.intOf]; omega
          cases x93
          case true =>
            go_wp2_with fail
            refine hbl.mono ?_
            rintro e w' ⟨rfl, rfl⟩
            go_wp2_with fail
            go_ret
            exact ⟨rfl, B02⟩
          have HY : Hid (badP sh0 s = badP false (s.drop (k + 1))) := Lib.hid (by rw [HX.out]; rfl)
          go_wp2_with fail
          refine hbl.mono ?_
          rintro e w' ⟨rfl, rfl⟩
          go_wp2_with fail
          go_roundw
          case rel => exact ⟨k + 1, false, rfl, by go_num, by omega, HY, by first | rfl | trivial⟩
          case measure => simp [RowKit.intOf]; omega
        · have t0 : True := trivial
          cases bl
          case true =>
            go_wp2_with fail
            refine hbl.mono ?_
            rintro e w' ⟨rfl, rfl⟩
            go_wp2_with fail
            go_ret
            exact ⟨rfl, B02⟩
          cases x47
          case true =>
            go_wp2_with fail
            refine hbl.mono ?_
            rintro e w' ⟨rfl, rfl⟩
            go_wp2_with fail
            go_ret
            exact ⟨rfl, B02⟩
          cases x63
          case true =>
            go_wp2_with fail
            refine hbl.mono ?_
            rintro e w' ⟨rfl, rfl⟩
            go_wp2_with fail
            go_ret
            exact ⟨rfl, B02⟩
          cases x35
          case true =>
            go_wp2_with fail
            refine hbl.mono ?_
            rintro e w' ⟨rfl, rfl⟩
            go_wp2_with fail
            go_ret
            exact ⟨rfl, B02⟩
          cases x64
          case true =>
            go_wp2_with fail
            refine hbl.mono ?_
            rintro e w' ⟨rfl, rfl⟩
            go_wp2_with fail
            go_ret
            exact ⟨rfl, B02⟩
          cases x58
          case false =>
            have HY : Hid (badP sh0 s = badP true (s.drop (k + 1))) := Lib.hid (by rw [HX.out]; rfl)
            go_wp2_with fail
            refine hbl.mono ?_
            rintro e w' ⟨rfl, rfl⟩
            go_wp2_with fail
            go_roundw
            case rel => exact ⟨k + 1, true, rfl, by go_num, by omega, HY, by first | rfl | trivial⟩
            case measure => simp [RowKit.intOf]; omega
          go_wp2_with fail
          refine hbl.mono ?_
          rintro e w' ⟨rfl, rfl⟩
          go_wp2_with fail
          go_ret
          exact ⟨rfl, B02⟩
      · have hx := hh.out
        rw [List.drop_eq_nil_of_le (by omega), badP] at hx
        obtain ⟨h1, h2⟩ := HQ.out hx
        subst h1
        subst h2
        clear hx hh HQ
        go_wp2_with fail
        obtain ⟨p, rfl⟩ := Int.eq_ofNat_of_zero_le ha.1
        have hp : p ≤ 65535 := by omega
        obtain ⟨b1, b2, b3, b4⟩ := port_bytes p hp
        have hcv := conv5 wr _ _ _ _ _ _ _ _ _ _ b1 b2 b3 b4 (port_last p)
        clear b1 b2 b3 b4 ha
        rw [hcv]
        rw [Int.toNat_natCast] at A2
        have e : [UInt8.ofNat (48 + p / 10000), UInt8.ofNat (48 + p / 1000 % 10), UInt8.ofNat (48 + p / 100 % 10), UInt8.ofNat (48 + p / 10 % 10), UInt8.ofNat (48 + p % 10)] = portD p := rfl
        rw [e]
        clear e hcv
        have B03 := B02.alloc (by simpa using B02.size) (.cells #[.int .u8 (IntKind.u16.wrap (48 + IntKind.u16.wrap ((p : Int).tdiv 10000)) % 256), .int .u8 (IntKind.u16.wrap (48 + (IntKind.u16.wrap ((p : Int).tdiv 1000)).tmod 10) % 256), .int .u8 (IntKind.u16.wrap (48 + (IntKind.u16.wrap ((p : Int).tdiv 100)).tmod 10) % 256), .int .u8 (IntKind.u16.wrap (48 + (IntKind.u16.wrap ((p : Int).tdiv 10)).tmod 10) % 256), .int .u8 (48 + (p : Int) % 10)] 5)
        generalize (wr.alloc (.cells #[.int .u8 (IntKind.u16.wrap (48 + IntKind.u16.wrap ((p : Int).tdiv 10000)) % 256), .int .u8 (IntKind.u16.wrap (48 + (IntKind.u16.wrap ((p : Int).tdiv 1000)).tmod 10) % 256), .int .u8 (IntKind.u16.wrap (48 + (IntKind.u16.wrap ((p : Int).tdiv 100)).tmod 10) % 256), .int .u8 (IntKind.u16.wrap (48 + (IntKind.u16.wrap ((p : Int).tdiv 10)).tmod 10) % 256), .int .u8 (48 + (p : Int) % 10)] 5)) = w3 at *
        have hdl : (portD p).length ≤ 5 := Nat.le_refl 5
        generalize portD p = dg at *
        go_wp2_with fail
        refine (A0 _ (hG.below B03) (hE.below B03) (hU.below B03)).mono ?_
        rintro e w4 ⟨rfl, B4⟩
        have B04 := below_trans B03 B4
        go_wp2_with fail
        refine (A1 _ (hG.below B04) (hE.below B04) (hU.below B04)).mono ?_
        rintro e w5 ⟨rfl, B5⟩
        have B05 := below_trans B04 B5
        cases q2
        · go_wp2_with fail
          refine (A2 _ (hG.below B05) (hE.below B05) (hU.below B05)).mono ?_
          rintro e w6 ⟨rfl, B6⟩
          go_wp2_with fail
          go_ret
          exact ⟨rfl, below_trans B05 B6⟩
        · go_wp2_with fail
          refine (A2 _ (hG.below B05) (hE.below B05) (hU.below B05)).mono ?_
          rintro e w6 ⟨rfl, B6⟩
          go_wp2_with fail
          go_ret
          exact ⟨rfl, below_trans B05 B6⟩
end Go.Proofs.YtoghjhaagallkaaDoor.link
