/- A part of the proofs: lemmas and contracts. -/
import Derived.Test.YtkhlfggnjcbniaaGreatDoorP33
import Derived.Test.YtkhlfggnjcbniaaGreatDoorP34
set_option maxHeartbeats 12800000
set_option maxRecDepth 1000000
namespace Go.Proofs.YtkhlfggnjcbniaaGreatDoor.link
open Go.ChangeShapes Go.WideShapes Go.ChangeAt Go.RowKit Go.Lib str

def portOk (p : List UInt8) : Bool := (p == []) || (digsB p && decide (valN 0 p ≤ 65535))
def portHT (u : List UInt8) : List UInt8 × List UInt8 := match lastB 58 u with
 | some k => if optI (lastB 93 u) < k then (u.take k, u.drop (k + 1)) else (u, [])
 | none => (u, [])
def portS (u : List UInt8) : Bool := portOk (portHT u).2 && hostS (portHT u).1
def serverS (s : List UInt8) : Bool := match lastB 64 s with
 | some k => !(hasB (s.take k) 64 || !fineS (s.take k)) && portS (s.drop (k + 1))
 | none => portS s

def restO (l : List UInt8) (o : Option Nat) : List UInt8 := match o with | some k => l.drop (k + 1) | none => l
theorem restO_le (l : List UInt8) (o : Option Nat) : (restO l o).length ≤ l.length := by
 cases o with
 | none => exact Nat.le_refl _
 | some k => simp [restO]

theorem port_ok (x : List UInt8) (hx : x ≠ []) (v : Int) (h : atoiAll x = .ok v) : portOk x = (digsB x && decide (v ≤ 65535)) := by
 unfold portOk
 rw [show (x == []) = false from by simp [hx], Bool.false_or]
 cases hd : digsB x
 ·rfl
 ·rcases atoi_bound x hd 65535 (by decide) with ⟨u, h1, _, h2⟩ | ⟨h1, _⟩
  ·rw [h] at h1
   cases h1
   congr 1
   rw [decide_eq_decide]
   constructor <;> intro g <;> omega
  ·exact absurd h (h1 v)
theorem port_no (x : List UInt8) (hx : x ≠ []) (h : ∀ v, atoiAll x ≠ .ok v) : portOk x = false := by
 unfold portOk
 rw [show (x == []) = false from by simp [hx], Bool.false_or]
 cases hd : digsB x
 ·rfl
 ·rcases atoi_bound x hd 65535 (by decide) with ⟨u, h1, _, h2⟩ | ⟨_, h2⟩
  ·exact absurd h1 (h u)
  ·rw [decide_eq_false (by omega : ¬ valN 0 x ≤ 65535), Bool.and_false]

theorem portHT_le (u : List UInt8) : (portHT u).1.length ≤ u.length ∧ (portHT u).2.length ≤ u.length := by
 unfold portHT
 cases lastB 58 u with
 | none => simp
 | some k =>
  simp only []
  split <;> simp <;> omega

theorem server_any (l : List UInt8) (hl : l.length ≤ 1000000) (w : World) (hG : G w) (hE : GE w) (hU : GU w) :
  Calls Tryz.prog 161 #[.string ⟨l.toArray⟩] w fun e w' => e = .returned (.bool (serverS l)) ∧ Below w.heap.size w w' := by
 obtain ⟨v, hv⟩ : ∃ v, v = serverS l := ⟨_, rfl⟩
 rw [← hv]
 unfold serverS at hv
 have h64 := lastidx_any l 64 (by omega) w
 have hsp := lastB_spec 64 l
 generalize lastB 64 l = o at *
 have HV := Lib.hid hv
 clear hv
 go_enter Tryz.func161, Tryz.ntmps161
 go_wp2_with fail
 refine h64.mono ?_
 rintro e w' ⟨rfl, rfl⟩
 go_upto_region 2 with fail
 go_cut [12] (fun s10 wx => s10 = .bool (decide (0 ≤ optI o)) ∧ wx = w)
 case first =>
  go_wp2_with fail
  go_meet
  exact ⟨rfl, rfl⟩
 case rest =>
 obtain ⟨rfl, rfl⟩ := hcut
 clear h64
 have HSP := Lib.hid hsp
 clear hsp
 go_upto_if 12 with fail
 go_cut [0] (fun s0 wx => s0 = .string ⟨(restO l o).toArray⟩ ∧ Hid (v = portS (restO l o)) ∧ Below wc.heap.size wc wx)
 case first =>
  cases o with
  | none =>
   have e0 : decide (0 ≤ optI none) = false := rfl
   have HY : Hid (v = portS l) := Lib.hid HV.out
   rw [e0]
   go_wp2_with fail
   go_meet
   exact ⟨rfl, HY, Below.refl _ _⟩
  | some k =>
   have hk : k < l.length := by
    rcases HSP.out with ⟨h, _⟩ | ⟨k', h, h2, _⟩
    ·cases h
    ·cases h; exact h2
   have e0 : decide (0 ≤ optI (some k)) = true := decide_eq_true (by show (0 : Int) ≤ k; omega)
   have hx : v = (!(hasB (l.take k) 64 || !fineS (l.take k)) && portS (l.drop (k + 1))) := HV.out
   have hc := contains_any (l.take k) 64 wc
   have hf := fine_any (l.take k) (by simp; omega) wc hU
   have eo : optI (some k) = (k : Int) := rfl
   rw [e0]
   clear HV HSP
   rw [eo]
   cases hh : hasB (l.take k) 64
   ·rw [hh] at hc hx
    generalize fineS (l.take k) = q at *
    have HX := Lib.hid hx
    clear hx hh eo e0
    go_wp2_with fail
    refine hc.mono ?_
    rintro e w' ⟨rfl, rfl⟩
    clear hc
    go_wp2_with fail
    refine hf.mono ?_
    rintro e w1 ⟨rfl, hb⟩
    clear hf
    cases q
    ·have HY : Hid (v = false) := Lib.hid HX.out
     go_wp2_with fail
     go_ret
     exact ⟨ret_bool HY.out.symm, hb⟩
    ·have HY : Hid (v = portS (l.drop (k + 1))) := Lib.hid (by rw [HX.out]; rfl)
     go_wp2_with fail
     go_meet
     exact ⟨rfl, HY, hb⟩
   ·rw [hh] at hc hx
    have HY : Hid (v = false) := Lib.hid (by rw [hx]; rfl)
    clear hx hf hh eo e0
    go_wp2_with fail
    refine hc.mono ?_
    rintro e w' ⟨rfl, rfl⟩
    go_wp2_with fail
    go_ret
    exact ⟨ret_bool HY.out.symm, Below.refl _ _⟩
 case rest =>
 obtain ⟨rfl, HY, hb1⟩ := hcut
 have hrl := restO_le l o
 clear HSP HV
 generalize restO l o = u at *
 have h58 := lastidx_any u 58 (by omega) wc
 have h93 := lastidx_any u 93 (by omega) wc
 go_wp2_with fail
 refine h58.mono ?_
 rintro e w' ⟨rfl, rfl⟩
 go_wp2_with fail
 refine h93.mono ?_
 rintro e w' ⟨rfl, rfl⟩
 clear h58 h93
 have hle := portHT_le u
 have HP : Hid (∀ k, lastB 58 u = some k → k < u.length ∧ portHT u = if optI (lastB 93 u) < k then (u.take k, u.drop (k + 1)) else (u, [])) := Lib.hid (by
  intro k hk
  refine ⟨?_, by unfold portHT; rw [hk]⟩
  rcases lastB_spec 58 u with ⟨h, _⟩ | ⟨k', h, h2, _⟩
  ·rw [h] at hk; cases hk
  ·rw [h] at hk; cases hk; exact h2)
 have HN : Hid (lastB 58 u = none → portHT u = (u, [])) := Lib.hid (fun h => by unfold portHT; rw [h])
 have hge := optI_ge (lastB 93 u)
 have HYY : Hid (v = (portOk (portHT u).2 && hostS (portHT u).1)) := HY
 clear HY
 generalize portHT u = ht at *
 generalize lastB 58 u = p at *
 generalize lastB 93 u = q at *
 obtain ⟨hh, pt⟩ := ht
 go_upto_if 34 with fail
 go_cut [4, 5] (fun s4 s5 wx => s4 = .string ⟨hh.toArray⟩ ∧ s5 = .string ⟨pt.toArray⟩ ∧ Below wc.heap.size wc wx)
 case first =>
  cases p with
  | none =>
   have hx := HN.out rfl
   have e0 : decide (optI q < optI none) = false := decide_eq_false (by show ¬ optI q < -1; omega)
   have HX := Lib.hid hx
   rw [e0]
   clear HN HP hx e0
   go_wp2_with fail
   go_meet
   exact ⟨by rw [(Prod.mk.inj HX.out).1], by rw [(Prod.mk.inj HX.out).2], Below.refl _ _⟩
  | some k =>
   obtain ⟨hk, hx⟩ := HP.out k rfl
   have eo : optI (some k) = (k : Int) := rfl
   by_cases hq : optI q < k
   ·rw [if_pos hq] at hx
    have HX := Lib.hid hx
    have e0 : decide (optI q < optI (some k)) = true := decide_eq_true hq
    rw [e0, eo]
    clear HN HP hx e0 eo
    go_wp2_with fail
    go_region
    all_goals
     go_wp2_with fail
     go_meet
     exact ⟨by rw [(Prod.mk.inj HX.out).1], by rw [(Prod.mk.inj HX.out).2], (Below.refl _ _).drew⟩
   ·rw [if_neg hq] at hx
    have HX := Lib.hid hx
    have e0 : decide (optI q < optI (some k)) = false := decide_eq_false hq
    rw [e0]
    clear HN HP hx e0
    go_wp2_with fail
    go_meet
    exact ⟨by rw [(Prod.mk.inj HX.out).1], by rw [(Prod.mk.inj HX.out).2], Below.refl _ _⟩
 case rest =>
 obtain ⟨rfl, rfl, hb2⟩ := hcut
 have hb3 := below_trans hb1 hb2
 clear HP HN
 have hG' := hG.below hb3
 have hE' := hE.below hb3
 have hU' := hU.below hb3
 have hh0 := fun w h1 h2 h3 => host_any hh (by omega) w h1 h2 h3
 obtain ⟨hle1, hle2⟩ := hle
 by_cases hp0 : pt = []
 ·subst hp0
  have HZ : Hid (v = hostS hh) := Lib.hid (by rw [HYY.out]; rfl)
  clear HYY
  go_wp2_with fail
  refine (hh0 _ hG' hE' hU').mono ?_
  rintro e w1 ⟨rfl, hb⟩
  go_wp2_with fail
  go_ret
  exact ⟨ret_bool HZ.out.symm, below_trans hb3 hb⟩
 ·have hemp : pt.isEmpty = false := by simp [hp0]
  have hat := atoi_any pt (by omega) wc hE'
  have hok := port_ok pt hp0
  have hno := port_no pt hp0
  have hdg := fun w => digs_any pt (by omega) w
  generalize portOk pt = z at *
  generalize digsB pt = d at *
  have HO := Lib.hid hok
  have HN := Lib.hid hno
  clear hok hno hp0
  go_wp2_with fail
  refine hat.mono ?_
  rintro e w2 ⟨hb4, ⟨n, hn, rfl⟩ | ⟨hn, n, N, rfl⟩⟩
  ·have HU : Hid (z = (d && decide (n ≤ 65535))) := Lib.hid (HO.out n hn)
   have hb5 := below_trans hb3 hb4
   clear hn hat HO HN
   go_wp2_with fail
   refine (hdg w2).mono ?_
   rintro e w3 ⟨rfl, hb6⟩
   have hb7 := below_trans hb5 hb6
   have hh1 := hh0 w3 (hG.below hb7) (hE.below hb7) (hU.below hb7)
   clear hdg hh0
   cases d
   ·have HZ : Hid (v = false) := Lib.hid (by rw [HYY.out, HU.out]; rfl)
    go_wp2_with fail
    go_ret
    exact ⟨ret_bool HZ.out.symm, hb7⟩
   ·by_cases h6 : n ≤ 65535
    ·have HZ : Hid (v = hostS hh) := Lib.hid (by rw [HYY.out, HU.out, decide_eq_true h6]; rfl)
     go_wp2_with fail
     refine hh1.mono ?_
     rintro e w4 ⟨rfl, hb⟩
     go_wp2_with fail
     go_ret
     exact ⟨ret_bool HZ.out.symm, below_trans hb7 hb⟩
    ·have HZ : Hid (v = false) := Lib.hid (by rw [HYY.out, HU.out, decide_eq_false h6]; rfl)
     go_wp2_with fail
     go_ret
     exact ⟨ret_bool HZ.out.symm, hb7⟩
  ·have HZ : Hid (v = false) := Lib.hid (by rw [HYY.out, HN.out hn]; rfl)
   have hb5 := below_trans hb3 hb4
   clear hn hat HO HN
   go_wp2_with fail
   refine (hdg w2).mono ?_
   rintro e w3 ⟨rfl, hb6⟩
   have hb7 := below_trans hb5 hb6
   clear hdg hh0
   cases d
   ·go_wp2_with fail
    go_ret
    exact ⟨ret_bool HZ.out.symm, hb7⟩
   ·go_wp2_with fail
    go_ret
    exact ⟨ret_bool HZ.out.symm, hb7⟩
end Go.Proofs.YtkhlfggnjcbniaaGreatDoor.link
namespace Go.Proofs.YtkhlfggnjcbniaaGreatDoor.link
open Go.Lib str

def kindS (sc : List UInt8) : Nat :=
 if sc = [102, 116, 112] ∨ sc = [104, 116, 116, 112] ∨ sc = [104, 116, 116, 112, 115] ∨ sc = [119, 115] ∨ sc = [119, 115, 115] then 0 else if sc = [102, 105, 108, 101] then 1 else 2
def absW (k : Nat) (x : List UInt8) : Bool :=
 fineS (x.drop (firstN 47 x)) && (if k = 0 then serverS (x.take (firstN 47 x)) else ((x.take (firstN 47 x) == []) || (if k = 1 then hostS (x.take (firstN 47 x)) else serverS (x.take (firstN 47 x)))))
def absF (k : Nat) (r : List UInt8) : Bool := fineS r && (if k = 0 then false else if k = 1 then (r.head? == some 47) else true)
def absQ (k : Nat) (r : List UInt8) : Bool := if Lib.hasPrefix r [47, 47] then absW k (r.drop 2) else absF k r
def absR (k : Nat) (r : List UInt8) : Bool := fineS (cut1 35 r).2.1 && fineS (cut1 63 (cut1 35 r).1).2.1 && absQ k (cut1 63 (cut1 35 r).1).1
def absS (s : List UInt8) : Bool := match sch true s with
 | none => false
 | some n => absR (kindS (lowS (s.take n))) (s.drop (n + 1))

theorem kind_ways (sc : List UInt8) :
  (sc = [102, 116, 112] ∨ sc = [104, 116, 116, 112] ∨ sc = [104, 116, 116, 112, 115] ∨ sc = [119, 115] ∨ sc = [119, 115, 115]) ∨ sc = [102, 105, 108, 101] ∨
  (¬ sc = [102, 116, 112] ∧ ¬ sc = [104, 116, 116, 112] ∧ ¬ sc = [104, 116, 116, 112, 115] ∧ ¬ sc = [119, 115] ∧ ¬ sc = [119, 115, 115] ∧ ¬ sc = [102, 105, 108, 101] ∧ kindS sc = 2) := by
 by_cases h : sc = [102, 116, 112] ∨ sc = [104, 116, 116, 112] ∨ sc = [104, 116, 116, 112, 115] ∨ sc = [119, 115] ∨ sc = [119, 115, 115]
 ·left; exact h
 ·right
  by_cases g : sc = [102, 105, 108, 101]
  ·left; exact g
  ·right
   have hk : kindS sc = 2 := by unfold kindS; rw [if_neg h, if_neg g]
   simp only [not_or] at h
   exact ⟨h.1, h.2.1, h.2.2.1, h.2.2.2.1, h.2.2.2.2, g, hk⟩

theorem firstN_index (l : List UInt8) (c : UInt8) : (indexByte l c = -1 ∧ firstN c l = l.length) ∨ ∃ i : Nat, indexByte l c = i ∧ firstN c l = i ∧ i < l.length := by
 unfold firstN
 rcases cut1_index c l with ⟨h1, h2⟩ | ⟨i, h1, h2⟩
 ·left; rw [h2]; exact ⟨h1, rfl⟩
 ·right
  have hg := (indexByte_some h1).1
  have hlt : i < l.length := (List.getElem?_eq_some_iff.1 hg).1
  refine ⟨i, h1, ?_, hlt⟩
  rw [h2]; simp; omega

theorem sch_lt (l : List UInt8) : ∀ first n, sch first l = some n → n < l.length := by
 induction l with
 | nil => intro f n h; cases h
 | cons c r ih =>
  intro f n h
  by_cases hc : c = 58
  ·subst hc
   rw [sch_colon] at h
   cases f
   ·cases h; simp
   ·cases h
  ·rw [sch_cons f c r hc] at h
   split at h
   ·cases hr : sch false r with
    | none => rw [hr] at h; cases h
    | some m =>
     rw [hr] at h
     cases h
     have := ih false m hr
     simp; omega
   ·cases h

theorem hasPre2_len (r : List UInt8) (h : Lib.hasPrefix r [47, 47] = true) : 2 ≤ r.length := by
 match r, h with
 | [], h => cases h
 | [a], h => simp [Lib.hasPrefix, List.isPrefixOf] at h
 | a :: b :: t, _ => simp
end Go.Proofs.YtkhlfggnjcbniaaGreatDoor.link
namespace Go.Proofs.YtkhlfggnjcbniaaGreatDoor.link
open Go.ChangeShapes Go.WideShapes Go.ChangeAt Go.RowKit Go.Lib str

theorem cutpre2_any (l : List UInt8) (w : World) :
  Calls Tryz.prog 159 #[.string ⟨l.toArray⟩, .string ⟨#[47, 47]⟩] w fun e w' => e = .returned (.tuple #[.string ⟨(if Lib.hasPrefix l [47, 47] then l.drop 2 else l).toArray⟩, .bool (Lib.hasPrefix l [47, 47])]) ∧ w = w' := by
 refine (Tryz.strings_CutPrefix ⟨l.toArray⟩ ⟨#[47, 47]⟩ w).mono ?_
 rintro e w' ⟨rfl, rfl⟩
 exact ⟨rfl, rfl⟩
theorem haspre_any (l : List UInt8) (w : World) :
  Calls Tryz.prog 163 #[.string ⟨l.toArray⟩, .string ⟨#[47]⟩] w fun e w' => e = .returned (.bool (l.head? == some 47)) ∧ w = w' := by
 refine (Tryz.strings_HasPrefix ⟨l.toArray⟩ ⟨#[47]⟩ w).mono ?_
 rintro e w' ⟨rfl, rfl⟩
 refine ⟨ret_bool ?_, rfl⟩
 show [47].isPrefixOf l = _
 cases l with
 | nil => rfl
 | cons a r => simp [List.isPrefixOf, Bool.beq_comm]

theorem abs_any (l : List UInt8) (hl : l.length ≤ 1000000) (w : World) (hG : G w) (hE : GE w) (hU : GU w) :
  Calls Tryz.prog 86 #[.string ⟨l.toArray⟩] w fun e w' => e = .returned (.bool (absS l)) ∧ Below w.heap.size w w' := by
 obtain ⟨v, hv⟩ : ∃ v, v = absS l := ⟨_, rfl⟩
 rw [← hv]
 unfold absS at hv
 have hsc := scheme_any l (by omega) w hG
 cases ho : sch true l with
 | none =>
  rw [ho] at hsc hv
  have HY : Hid (v = false) := Lib.hid hv
  clear hv ho
  go_enter Tryz.func86, Tryz.ntmps86
  go_wp2_with fail
  refine hsc.mono ?_
  rintro e w1 ⟨rfl, hb⟩
  go_wp2_with fail
  go_ret
  exact ⟨ret_bool HY.out.symm, hb⟩
 | some n =>
  have hlt := sch_lt l true n ho
  rw [ho] at hsc hv
  have e1 : schT l (some n) = lowS (l.take n) := rfl
  rw [e1, Option.isSome_some] at hsc
  have hlen : (lowS (l.take n)).length = n := by unfold lowS; simp; omega
  dsimp only at hv
  rw [show n + 1 = (lowS (l.take n)).length + 1 from by rw [hlen]] at hv
  have hls : (lowS (l.take n)).length + 1 ≤ l.length := by omega
  clear e1 ho hlen hlt
  generalize lowS (l.take n) = sc at *
  clear n
  -- the pieces
  have hdl : (l.drop (sc.length + 1)).length ≤ 1000000 := by simp; omega
  have hc1 := fun w h => cut_any (l.drop (sc.length + 1)) 35 (by omega) w h
  unfold absR at hv
  have hle1 := cut1_le 35 (l.drop (sc.length + 1))
  have hc2 := fun w h => cut_any (cut1 35 (l.drop (sc.length + 1))).1 63 (by omega) w h
  have hle2 := cut1_le 63 (cut1 35 (l.drop (sc.length + 1))).1
  generalize hr1 : (cut1 35 (l.drop (sc.length + 1))).1 = r1 at *
  generalize (cut1 35 (l.drop (sc.length + 1))).2.1 = bh at *
  generalize (cut1 35 (l.drop (sc.length + 1))).2.2 = f1 at *
  generalize (cut1 63 r1).1 = r at *
  generalize (cut1 63 r1).2.1 = qu at *
  generalize (cut1 63 r1).2.2 = f2 at *
  clear hr1
  have hfb := fun w h => fine_any bh (by omega) w h
  have hfq := fun w h => fine_any qu (by omega) w h
  have hpre := fun w => cutpre2_any r w
  have hQ : absQ (kindS sc) r = if Lib.hasPrefix r [47, 47] then absW (kindS sc) (r.drop 2) else absF (kindS sc) r := rfl
  generalize absQ (kindS sc) r = q at *
  have HQ := Lib.hid hQ
  have HPL := Lib.hid (hasPre2_len r)
  clear hQ
  generalize fineS bh = fb at *
  generalize fineS qu = fq at *
  generalize Lib.hasPrefix r [47, 47] = pre at *
  have HV := Lib.hid hv
  clear hv
  have hrl : r.length ≤ 1000000 := by omega
  clear hle1 hle2 hdl
  obtain ⟨x, hx⟩ : ∃ x, x = if pre = true then r.drop 2 else r := ⟨_, rfl⟩
  rw [← hx] at hpre
  have hxl : x.length ≤ 1000000 := by
   rw [hx]
   split
   ·simp; omega
   ·exact hrl
  have HX := Lib.hid hx
  clear hx
  have hix := fun w => idx_call x 47 w
  have hfi := firstN_index x 47
  have HFI := Lib.hid hfi
  clear hfi
  generalize indexByte x 47 = ix at *
  go_enter Tryz.func86, Tryz.ntmps86
  go_wp2_with fail
  refine hsc.mono ?_
  rintro e w1 ⟨rfl, hb1⟩
  clear hsc
  go_wp2_with fail
  refine (hc1 w1 (hG.below hb1)).mono ?_
  rintro e w2 ⟨rfl, hb2⟩
  have hb2' := below_trans hb1 hb2
  clear hc1
  go_wp2_with fail
  refine (hc2 w2 (hG.below hb2')).mono ?_
  rintro e w3 ⟨rfl, hb3⟩
  have hb3' := below_trans hb2' hb3
  clear hc2
  go_wp2_with fail
  refine (hfb w3 (hU.below hb3')).mono ?_
  rintro e w4 ⟨rfl, hb4⟩
  have hb4' := below_trans hb3' hb4
  clear hfb hb1 hb2 hb3 hb4 hb2' hb3'
  cases fb
  ·have HY : Hid (v = false) := Lib.hid (by rw [HV.out]; rfl)
   go_wp2_with fail
   go_ret
   exact ⟨ret_bool HY.out.symm, hb4'⟩
  ·go_wp2_with fail
   refine (hfq w4 (hU.below hb4')).mono ?_
   rintro e w5 ⟨rfl, hb5⟩
   have hb5' := below_trans hb4' hb5
   clear hfq hb4' hb5
   cases fq
   ·have HY : Hid (v = false) := Lib.hid (by rw [HV.out]; rfl)
    go_wp2_with fail
    go_ret
    exact ⟨ret_bool HY.out.symm, hb5'⟩
   ·have HY : Hid (v = q) := Lib.hid (by rw [HV.out]; rfl)
    clear HV
    go_wp2_with fail
    refine (hpre w5).mono ?_
    rintro e w6 ⟨rfl, rfl⟩
    clear hpre
    go_wp2_with fail
    refine (hix w5).mono ?_
    rintro e w6 ⟨rfl, rfl⟩
    clear hix
    obtain ⟨nm, hnm⟩ : ∃ nm, nm = x.take (firstN 47 x) := ⟨_, rfl⟩
    obtain ⟨pt, hpt⟩ : ∃ pt, pt = x.drop (firstN 47 x) := ⟨_, rfl⟩
    have hnl : nm.length ≤ 1000000 := by rw [hnm]; simp; omega
    have hpl : pt.length ≤ 1000000 := by rw [hpt]; simp; omega
    have HNM := Lib.hid hnm
    have HPT := Lib.hid hpt
    clear hnm hpt
    go_upto_if 56 with fail
    go_cut [12, 13] (fun s12 s13 wx => s12 = .string ⟨nm.toArray⟩ ∧ s13 = .string ⟨pt.toArray⟩ ∧ Below w6.heap.size w6 wx)
    case first =>
     rcases HFI.out with ⟨h1, h2⟩ | ⟨i, h1, h2, h3⟩
     ·have e0 : decide (0 ≤ ix) = false := decide_eq_false (by omega)
      have H2 := Lib.hid h2
      rw [e0]
      clear h1 h2 e0
      go_wp2_with fail
      go_meet
      exact ⟨by rw [HNM.out, H2.out, List.take_length], by rw [HPT.out, H2.out, List.drop_length], Below.refl _ _⟩
     ·have e0 : decide (0 ≤ ix) = true := decide_eq_true (by omega)
      have H2 := Lib.hid h2
      rw [e0]
      subst h1
      clear h2 e0
      go_wp2_with fail
      go_region
      all_goals
       go_wp2_with fail
       go_meet
       exact ⟨by rw [HNM.out, H2.out], by rw [HPT.out, H2.out], (Below.refl _ _).drew⟩
    case rest =>
    obtain ⟨rfl, rfl, hb6⟩ := hcut
    have hb := below_trans hb5' hb6
    have hsv := fun w h1 h2 h3 => server_any nm hnl w h1 h2 h3
    have hho := fun w h1 h2 h3 => host_any nm hnl w h1 h2 h3
    have hfp := fun w h => fine_any pt (by omega) w h
    have hfr := fun w h => fine_any r (by omega) w h
    have hhp := fun w => haspre_any r w
    have HW : Hid (pre = true → ∀ k, absW k (r.drop 2) = (fineS pt && (if k = 0 then serverS nm else ((nm == []) || (if k = 1 then hostS nm else serverS nm))))) := Lib.hid (by
     intro h k
     have : x = r.drop 2 := by rw [HX.out, if_pos h]
     rw [← this, HNM.out, HPT.out]; rfl)
    have HF : Hid (∀ k, absF k r = (fineS r && (if k = 0 then false else if k = 1 then (r.head? == some 47) else true))) := Lib.hid (fun k => rfl)
    clear HX HNM HPT HPL HFI hb5' hb6
    generalize serverS nm = sv at *
    generalize hostS nm = ho at *
    generalize fineS pt = fp at *
    generalize fineS r = fr at *
    generalize (r.head? == some 47) = h47 at *
    have hG' := hG.below hb
    have hE' := hE.below hb
    have hU' := hU.below hb
    rcases kind_ways sc with hk | hk | ⟨h1, h2, h3, h4, h5, h6, hk⟩
    ·have hk0 : kindS sc = 0 := if_pos hk
     rw [hk0] at HQ
     clear hk0 hho hfr hhp hls
     cases pre
     ·have HZ : Hid (v = false) := Lib.hid (by rw [HY.out, HQ.out, if_neg (by decide), HF.out]; cases fr <;> rfl)
      rcases hk with rfl | rfl | rfl | rfl | rfl
      all_goals
       go_wp2_with fail
       go_ret
       exact ⟨ret_bool HZ.out.symm, hb⟩
     ·have HZ : Hid (v = (fp && sv)) := Lib.hid (by rw [HY.out, HQ.out, if_pos rfl, HW.out rfl]; rfl)
      cases sv
      ·have HZZ : Hid (v = false) := Lib.hid (by rw [HZ.out]; cases fp <;> rfl)
       rcases hk with rfl | rfl | rfl | rfl | rfl
       all_goals
        go_wp2_with fail
        refine (hsv wc hG' hE' hU').mono ?_
        rintro e w7 ⟨rfl, hb7⟩
        go_wp2_with fail
        go_ret
        exact ⟨ret_bool HZZ.out.symm, below_trans hb hb7⟩
      ·have HZZ : Hid (v = fp) := Lib.hid (by rw [HZ.out]; cases fp <;> rfl)
       rcases hk with rfl | rfl | rfl | rfl | rfl
       all_goals
        go_wp2_with fail
        refine (hsv wc hG' hE' hU').mono ?_
        rintro e w7 ⟨rfl, hb7⟩
        have hb8 := below_trans hb hb7
        go_wp2_with fail
        refine (hfp w7 (hU.below hb8)).mono ?_
        rintro e w8 ⟨rfl, hb9⟩
        go_wp2_with fail
        go_ret
        exact ⟨ret_bool HZZ.out.symm, below_trans hb8 hb9⟩
    ·have hk0 : kindS sc = 1 := by rw [hk]; decide
     rw [hk0] at HQ
     subst hk
     clear hk0 hls hsv
     cases pre
     ·have HZ : Hid (v = (fr && h47)) := Lib.hid (by rw [HY.out, HQ.out, if_neg (by decide), HF.out]; rfl)
      cases h47
      ·have HZZ : Hid (v = false) := Lib.hid (by rw [HZ.out]; cases fr <;> rfl)
       go_wp2_with fail
       refine (hhp wc).mono ?_
       rintro e w7 ⟨rfl, rfl⟩
       go_wp2_with fail
       go_ret
       exact ⟨ret_bool HZZ.out.symm, hb⟩
      ·have HZZ : Hid (v = fr) := Lib.hid (by rw [HZ.out]; cases fr <;> rfl)
       go_wp2_with fail
       refine (hhp wc).mono ?_
       rintro e w7 ⟨rfl, rfl⟩
       go_wp2_with fail
       refine (hfr wc hU').mono ?_
       rintro e w8 ⟨rfl, hb9⟩
       go_wp2_with fail
       go_ret
       exact ⟨ret_bool HZZ.out.symm, below_trans hb hb9⟩
     ·have HZ : Hid (v = (fp && ((nm == []) || ho))) := Lib.hid (by rw [HY.out, HQ.out, if_pos rfl, HW.out rfl]; rfl)
      by_cases hn : nm = []
      ·have HZZ : Hid (v = fp) := Lib.hid (by rw [HZ.out, hn]; cases fp <;> rfl)
       have hemp : nm.isEmpty = true := by simp [hn]
       clear HZ hn hho
       go_wp2_with fail
       refine (hfp wc hU').mono ?_
       rintro e w8 ⟨rfl, hb9⟩
       go_wp2_with fail
       go_ret
       exact ⟨ret_bool HZZ.out.symm, below_trans hb hb9⟩
      ·have HZ2 : Hid (v = (fp && ho)) := Lib.hid (by rw [HZ.out, show (nm == []) = false from by simp [hn]]; rfl)
       have hemp : nm.isEmpty = false := by simp [hn]
       clear HZ hn
       cases ho
       ·have HZZ : Hid (v = false) := Lib.hid (by rw [HZ2.out]; cases fp <;> rfl)
        go_wp2_with fail
        refine (hho wc hG' hE' hU').mono ?_
        rintro e w7 ⟨rfl, hb7⟩
        go_wp2_with fail
        go_ret
        exact ⟨ret_bool HZZ.out.symm, below_trans hb hb7⟩
       ·have HZZ : Hid (v = fp) := Lib.hid (by rw [HZ2.out]; cases fp <;> rfl)
        go_wp2_with fail
        refine (hho wc hG' hE' hU').mono ?_
        rintro e w7 ⟨rfl, hb7⟩
        have hb8 := below_trans hb hb7
        go_wp2_with fail
        refine (hfp w7 (hU.below hb8)).mono ?_
        rintro e w8 ⟨rfl, hb9⟩
        go_wp2_with fail
        go_ret
        exact ⟨ret_bool HZZ.out.symm, below_trans hb8 hb9⟩
    ·rw [hk] at HQ
     have hn1 : (sc == [102, 116, 112]) = false := by simpa using h1
     have hn2 : (sc == [104, 116, 116, 112]) = false := by simpa using h2
     have hn3 : (sc == [104, 116, 116, 112, 115]) = false := by simpa using h3
     have hn4 : (sc == [119, 115]) = false := by simpa using h4
     have hn5 : (sc == [119, 115, 115]) = false := by simpa using h5
     have hn6 : (sc == [102, 105, 108, 101]) = false := by simpa using h6
     clear hk h1 h2 h3 h4 h5 h6 hls hho hhp
     cases pre
     ·have HZ : Hid (v = fr) := Lib.hid (by rw [HY.out, HQ.out, if_neg (by decide), HF.out]; cases fr <;> rfl)
      go_wp2_with fail
      refine (hfr wc hU').mono ?_
      rintro e w8 ⟨rfl, hb9⟩
      go_wp2_with fail
      go_ret
      exact ⟨ret_bool HZ.out.symm, below_trans hb hb9⟩
     ·have HZ : Hid (v = (fp && ((nm == []) || sv))) := Lib.hid (by rw [HY.out, HQ.out, if_pos rfl, HW.out rfl]; rfl)
      by_cases hn : nm = []
      ·have HZZ : Hid (v = fp) := Lib.hid (by rw [HZ.out, hn]; cases fp <;> rfl)
       have hemp : nm.isEmpty = true := by simp [hn]
       clear HZ hn hsv
       go_wp2_with fail
       refine (hfp wc hU').mono ?_
       rintro e w8 ⟨rfl, hb9⟩
       go_wp2_with fail
       go_ret
       exact ⟨ret_bool HZZ.out.symm, below_trans hb hb9⟩
      ·have HZ2 : Hid (v = (fp && sv)) := Lib.hid (by rw [HZ.out, show (nm == []) = false from by simp [hn]]; rfl)
       have hemp : nm.isEmpty = false := by simp [hn]
       clear HZ hn
       cases sv
       ·have HZZ : Hid (v = false) := Lib.hid (by rw [HZ2.out]; cases fp <;> rfl)
        go_wp2_with fail
        refine (hsv wc hG' hE' hU').mono ?_
        rintro e w7 ⟨rfl, hb7⟩
        go_wp2_with fail
        go_ret
        exact ⟨ret_bool HZZ.out.symm, below_trans hb hb7⟩
       ·have HZZ : Hid (v = fp) := Lib.hid (by rw [HZ2.out]; cases fp <;> rfl)
        go_wp2_with fail
        refine (hsv wc hG' hE' hU').mono ?_
        rintro e w7 ⟨rfl, hb7⟩
        have hb8 := below_trans hb hb7
        go_wp2_with fail
        refine (hfp w7 (hU.below hb8)).mono ?_
        rintro e w8 ⟨rfl, hb9⟩
        go_wp2_with fail
        go_ret
        exact ⟨ret_bool HZZ.out.symm, below_trans hb8 hb9⟩
end Go.Proofs.YtkhlfggnjcbniaaGreatDoor.link
