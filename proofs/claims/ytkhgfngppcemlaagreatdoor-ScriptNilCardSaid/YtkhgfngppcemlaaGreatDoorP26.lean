/- tree.copied of nodes without attributes and children, in memory of its own. tree.Add of a form, to nodes without attributes and children. -/
import Derived.BigQuiet
import Derived.ChangeAlike
import Derived.Deep.AppendLies
import Derived.Deep.CutBlock
import Derived.Deep.DeepCutAuto
import Derived.Deep.MidRow
import Derived.Deep.RegionHeld
import Derived.Deep.RegionHeld3
import Derived.Deep.RegionLaw
import Derived.Deep.RegionLawGrows
import Derived.Deep.SlicePairs
import Derived.Deep.Slices
import Derived.Laws.BytesArg
import Derived.Laws.CopyRow
import Derived.Laws.IdiomStrings
import Derived.Laws.MakeOwn
import Derived.Laws.OwnMore
import Derived.Laws.Rows
import Derived.Lib.Hide
import Derived.Lib.IndexBytes
import Derived.Lib.IndexMore
import Derived.Lib.ItoaMem
import Derived.Lib.ItoaNum
import Derived.Lib.OwnKind
import Derived.Lib.Replace
import Derived.Lib.SlTrimSet
import Derived.Lib.SliceRun
import Derived.Lib.Strings
import Derived.OneCell
import Derived.OpenShut
import Derived.ProofKit
import Derived.RangeFuncBox
import Derived.RegionTactic
import Derived.Shelf.SlicesQ.IndexFunc
import Derived.WalkKit
import Derived.WalkSmall
import Derived.WalkSpells
import Derived.WideKeyArgs
import Derived.Test.YtkhgfngppcemlaaGreatDoorRows
import Derived.Test.YtkhgfngppcemlaaGreatDoorShelf
import Derived.Test.YtkhgfngppcemlaaGreatDoorP0
import Derived.Test.YtkhgfngppcemlaaGreatDoorP1
import Derived.Test.YtkhgfngppcemlaaGreatDoorP3
import Derived.Test.YtkhgfngppcemlaaGreatDoorP6
import Derived.Test.YtkhgfngppcemlaaGreatDoorP7
import Derived.Test.YtkhgfngppcemlaaGreatDoorP8
import Derived.Test.YtkhgfngppcemlaaGreatDoorP9
import Derived.Test.YtkhgfngppcemlaaGreatDoorP10
import Derived.Test.YtkhgfngppcemlaaGreatDoorP11
import Derived.Test.YtkhgfngppcemlaaGreatDoorP12
import Derived.Test.YtkhgfngppcemlaaGreatDoorP13
import Derived.Test.YtkhgfngppcemlaaGreatDoorP14
import Derived.Test.YtkhgfngppcemlaaGreatDoorP15
import Derived.Test.YtkhgfngppcemlaaGreatDoorP16
import Derived.Test.YtkhgfngppcemlaaGreatDoorP17
import Derived.Test.YtkhgfngppcemlaaGreatDoorP18
import Derived.Test.YtkhgfngppcemlaaGreatDoorP19
import Derived.Test.YtkhgfngppcemlaaGreatDoorP20
import Derived.Test.YtkhgfngppcemlaaGreatDoorP21
import Derived.Test.YtkhgfngppcemlaaGreatDoorP22
import Derived.Test.YtkhgfngppcemlaaGreatDoorP23
import Derived.Test.YtkhgfngppcemlaaGreatDoorP24
namespace Go.Proofs.YtkhgfngppcemlaaGreatDoor.scr
open Go Go.RowKit Go.ChangeShapes Go.WideShapes Go.ChangeAt Go.Lib Go.Proofs.YtkhgfngppcemlaaGreatDoor.doc Go.Proofs.YtkhgfngppcemlaaGreatDoor.atr Go.Proofs.YtkhgfngppcemlaaGreatDoor.ctl

theorem cloneA_nil (w : World) : Calls Tryz.prog 119 #[.slice none 0 0] w fun e w' => e = .returned (.slice none 0 0) ∧ w = w' := by
  have q22 : ∀ (w : World) (a : Option Addr) (n c n' c' : Nat), (binOp .eql 81 (.slice a n c) (.slice none n' c')).run Tryz.prog w = .ok (.bool a.isNone) w := fun w a n c n' c' => Lib.run_eql_slice_nil w _ _ a n c n' c' Tryz.underlying81
  go_enter Tryz.func119, Tryz.ntmps119
  go_wp2
  go_ret
  exact ⟨rfl, rfl⟩
theorem cloneI_nil (w : World) : Calls Tryz.prog 120 #[.slice none 0 0] w fun e w' => e = .returned (.slice none 0 0) ∧ w = w' := by
  have q22 : ∀ (w : World) (a : Option Addr) (n c n' c' : Nat), (binOp .eql 82 (.slice a n c) (.slice none n' c')).run Tryz.prog w = .ok (.bool a.isNone) w := fun w a n c n' c' => Lib.run_eql_slice_nil w _ _ a n c n' c' Tryz.underlying82
  go_enter Tryz.func120, Tryz.ntmps120
  go_wp2
  go_ret
  exact ⟨rfl, rfl⟩
theorem run_copy_wide {P : Program} (w : World) (dT sT ty elem : TypeId) (g n cap : Nat) (a : Addr) (sCap size : Nat) (cur : Array Value) (t : TypeId) (cs : List Value)
    (hu : P.underlying dT = some (.slice elem)) (hs : (P.info? elem).map (·.size) = some size)
    (hg : w.heap[g]? = some (.cells cur t (0, 0))) (hn : cs.length = n * size)
    (hsrc : ∀ j v, cs[j]? = some v → w.cell? (a.add j) = some v) (hfit : cs.length ≤ cur.size) (h1 : ∀ v ∈ cs, v.oneCell' = true) :
    (Builtin.copy_ #[dT, sT] ty #[.slice (some ⟨g, 0, none⟩) n cap, .slice (some a) n sCap]).run P w =
      .ok (goInt n) (w.setRow g (cur.toList.take 0 ++ cs ++ cur.toList.drop (0 + cs.length)).toArray) := by
  have hl := run_loadCells_list (P := P) w a cs hsrc
  have hst := run_storeCells_at P g 0 t cs 0 cur w hg (by simpa using hfit) h1
  cases hq : P.info? elem with
  | none => simp [hq] at hs
  | some i =>
    have hi : i.size = size := by simpa [hq] using hs
    simp [Builtin.copy_, run_underlying hu, Builtin.lenOf, Builtin.firstCells, sizeOf, typeInfo, hq, hi, ← hn, hl, hst]
theorem wpList_copy_wide {P : Program} {w : World} {ops : Array Oper} {rest : List Oper} {o : Oper} {a : Act} {Q : Exit → Act → World → Prop} (hgd : o.guard = none) (d s : Operand) (dT sT : TypeId)
    (ho : o.op = .call { callee := .builtin .copy, args := #[d, s], argTypes := #[dT, sT] }) (elem : TypeId) (size : Nat) (hu : P.underlying dT = some (.slice elem)) (hsz : (P.info? elem).map (·.size) = some size)
    (g n cap : Nat) (ad : Addr) (sCap : Nat) (hd : a.eval d = .slice (some ⟨g, 0, none⟩) n cap) (hs : a.eval s = .slice (some ad) n sCap)
    (cur : Array Value) (t : TypeId) (hg : w.heap[g]? = some (.cells cur t (0, 0))) (cs : List Value) (hn : cs.length = n * size)
    (hsrc : ∀ j v, cs[j]? = some v → w.cell? (ad.add j) = some v) (hfit : cs.length ≤ cur.size) (h1 : ∀ v ∈ cs, v.oneCell' = true)
    (h : ∀ w', w'.heap[g]? = some (.cells (cs ++ cur.toList.drop cs.length).toArray t (0, 0)) → (∀ B, B ≤ g → Below B w w') → wpList P ops Q rest (a.put o.dst (goInt n)) w') : wpList P ops Q (o :: rest) a w := by
  refine wpList_plain hgd fun K hK => ?_
  have hrun := run_copy_wide (P := P) w dT sT o.type elem g n cap ad sCap size cur t cs hu hsz hg hn hsrc hfit h1
  unfold Oper.wp
  simp [execOp, ho, resolve, invoke, builtin, hd, hs, hrun, Result.andThen]
  refine hK _ _ (h _ ?_ ?_)
  · rw [setRow_heap w g _ _ t _ hg]
  · intro B hB
    exact ⟨rfl, rfl, rfl, by simp [World.setRow], fun k hk => setRow_other w g k _ (by omega)⟩
theorem zip_nil : ∀ (l : List Nd), (l.zip (l.map fun _ => nilP)).flatMap (fun x => encN x.1 x.2) = l.flatMap (fun n => encN n nilP) := by
  intro l
  induction l with
  | nil => rfl
  | cons n r ih => simp only [List.map_cons, List.zip_cons_cons, List.flatMap_cons, ih]
theorem encN_flat : ∀ (l : List Nd), (l.flatMap (fun n => encN n nilP)).length = l.length * 5 := by
  intro l
  induction l with
  | nil => rfl
  | cons n r ih => rw [List.flatMap_cons, List.length_append, ih, List.length_cons]; simp [encN]; omega
theorem encN_one (l : List Nd) : ∀ u ∈ l.flatMap (fun n => encN n nilP), u.oneCell' = true := by
  intro u hu
  obtain ⟨n, _, h⟩ := List.mem_flatMap.1 hu
  simp only [encN, nilP, List.mem_cons, List.not_mem_nil, or_false] at h
  rcases h with rfl | rfl | rfl | rfl | rfl <;> rfl
def Bare (l : List Nd) : Prop := ∀ n ∈ l, n.attrs = [] ∧ n.kids = []
theorem bare_cp {w : World} {B g cap : Nat} {l : List Nd} (hb : Bare l) (h : w.ownsRow B 84 5 (.slice (some ⟨g, 0, none⟩) l.length cap) l.length (l.flatMap (fun n => encN n nilP))) :
    CpR w B (.slice (some ⟨g, 0, none⟩) l.length cap) l (l.map fun _ => nilP) := by
  refine ⟨by simp, by rw [zip_nil]; exact h, fun j h1 h2 => ?_, fun j h1 h2 => ?_⟩
  · obtain ⟨e, _⟩ := hb l[j] (List.getElem_mem h1)
    rw [List.getElem_map, e]
    exact World.ownsRow_nil _ _ _ _
  · obtain ⟨_, e⟩ := hb l[j] (List.getElem_mem h1)
    rw [List.getElem_map, e]
    exact World.ownsRow_nil _ _ _ _

theorem cp_same {w : World} {B g cap n : Nat} {l : List Nd} {ps : List (Value × Value)} (h : CpR w B (.slice (some ⟨g, 0, none⟩) n cap) l ps) (hn : n = l.length) (j : Nat) (hj : j < l.length) (hj' : j < ps.length) (f : Nat) (hf : f < 5) (u : Value) (he : (encN l[j] ps[j])[f]? = some u) :
    CpR (w.setCell ⟨g, j * 5 + f, none⟩ u) B (.slice (some ⟨g, 0, none⟩) n cap) l ps := by
  have e1 : (encN l[j] ps[j]).set f u = encN l[j] ps[j] := by
    obtain ⟨h1, h2⟩ := List.getElem?_eq_some_iff.1 he
    rw [← h2, List.set_getElem_self]
  have := h.setX hn j hj hj' f hf u l[j] ps[j] e1 (h.attrs j hj hj') (h.kids j hj hj')
  rwa [List.set_getElem_self, List.set_getElem_self] at this
set_option maxHeartbeats 3200000 in
set_option maxRecDepth 100000 in
theorem tcopied_nil (l : List Nd) (hb : Bare l) (h1 : 0 < l.length) (hl : l.length ≤ 1000) (v : Value) (w : World) (hR : RowAt w v l.length (l.flatMap (fun n => encN n nilP))) :
    Calls Tryz.prog 145 #[v] w fun e w' => ∃ g cap, e = .returned (.slice (some ⟨g, 0, none⟩) l.length cap) ∧ CpR w' w.heap.size (.slice (some ⟨g, 0, none⟩) l.length cap) l (l.map fun _ => nilP) ∧ Below w.heap.size w w' := by
  obtain ⟨inn, hin, hzn, hzn1, hzn2⟩ := info_parts infoN
  rcases hR with ⟨h0, _⟩ | ⟨b, off, cap, rfl, _, hbl, hc⟩
  · omega
  obtain ⟨X, hX, hXs⟩ : ∃ X : Array Value, (Instr.makeSlice 65 (.int .i64 (l.length : Int)) (.int .i64 ((l.length : Int) + 1))).run Tryz.prog w = .ok (.slice (some ⟨w.heap.size, 0, none⟩) l.length (l.length + 1)) (w.alloc (.cells X 84)) ∧ X.size = (l.length + 1) * 5 := by
    have := run_make (P := Tryz.prog) w 65 84 inn _ Tryz.underlying65 hin hzn .i64 .i64 (l.length : Int) ((l.length : Int) + 1) (by omega) (by omega) (by rw [hzn2]; omega) (by omega)
    rw [show ((l.length : Int)).toNat = l.length by omega, show ((l.length : Int) + 1).toNat = l.length + 1 by omega] at this
    exact ⟨_, this, by simp [madeCells, hzn1]⟩
  have hbX : Below w.heap.size w (w.alloc (.cells X 84)) := (Below.refl _ _).alloc (Nat.le_refl _) _
  have hc' : ∀ j v, (l.flatMap (fun n => encN n nilP))[j]? = some v → (w.alloc (.cells X 84)).cell? ((⟨b, off, none⟩ : Addr).add j) = some v := fun j v hj => by
    rw [Lib.add_plain]
    exact cell_below hbX (hc j v hj)
  have HL := Lib.hid (encN_flat l)
  have H1 := Lib.hid (encN_one l)
  have HB := Lib.hid hb
  have HC' := Lib.hid hc'
  have HXs := Lib.hid hXs
  obtain ⟨cs, hcs⟩ : ∃ cs, cs = l.flatMap (fun n => encN n nilP) := ⟨_, rfl⟩
  rw [← hcs] at HL H1 HC'
  have HCs := Lib.hid hcs
  clear hc hc' hXs hcs
  go_enter Tryz.func145, Tryz.ntmps145
  go_wp2_with (with_reducible refine wpList_copy_wide rfl (.tmp 11) (.tmp 12) 65 65 rfl 84 5 Tryz.underlying65 ?q0 w.heap.size l.length (l.length + 1) ⟨b, off, none⟩ cap ?q2 ?q3 X 84 (heap_alloc_new w _) cs HL.out HC'.out ?q1 H1.out ?_)
  case q0 => rw [hin, Option.map_some, hzn1]
  case q1 => rw [HL.out, HXs.out]; omega
  case q2 => rfl
  case q3 => rfl
  intro w2 hw2 hb2
  have hbw : Below w.heap.size w w2 := hbX.trans (hb2 _ (Nat.le_refl _))
  have hcp : CpR w2 w.heap.size (.slice (some ⟨w.heap.size, 0, none⟩) l.length (l.length + 1)) l (l.map fun _ => nilP) := by
    refine bare_cp HB.out ⟨by rw [← HCs.out, HL.out], .inr ⟨w.heap.size, l.length + 1, _, rfl, Nat.le_refl _, hw2, by omega, by unfold maxLen; omega, ?_, ?_⟩⟩
    · simp [HL.out, HXs.out]
      omega
    · rw [← HCs.out, ← HL.out]
      simp
  have HCP := Lib.hid hcp
  clear hw2 hb2 hcp hX hbX
  go_wp2_with fail
  go_loopw [16] (fun s16 wr => ∃ k : Nat, s16 = .int .i64 k ∧ k ≤ l.length ∧ Hid (CpR wr w.heap.size (.slice (some ⟨w.heap.size, 0, none⟩) l.length (l.length + 1)) l (l.map fun _ => nilP)) ∧ Below w.heap.size w wr) (fun s16 _ => l.length - (RowKit.intOf s16).toNat)
  case atStart => exact ⟨0, rfl, Nat.zero_le _, HCP, hbw⟩
  case round =>
    obtain ⟨k, rfl, hk, ho, hbr⟩ := hrel
    by_cases hlt : k < l.length
    case neg =>
      obtain rfl : k = l.length := by omega
      go_wp2_with fail
      go_ret
      exact ⟨_, _, rfl, ho.out, hbr⟩
    have hlt' : k < (l.map fun _ => nilP).length := by simpa using hlt
    have hp : (l.map fun _ => nilP)[k] = nilP := by simp
    have d2 : wr.cell? ⟨w.heap.size, k * 5 + 2, none⟩ = some (.slice none 0 0) := by rw [ho.out.cellX rfl k hlt hlt' 2 (by decide), hp]; rfl
    have z2 := World.ownsRow.frozenAt ho.out.row (k * 5 + 2)
    have hset2 := cp_same ho.out rfl k hlt hlt' 2 (by decide) (.slice none 0 0) (by rw [hp]; rfl)
    have d4 : (wr.setCell ⟨w.heap.size, k * 5 + 2, none⟩ (.slice none 0 0)).cell? ⟨w.heap.size, k * 5 + 4, none⟩ = some (.slice none 0 0) := by rw [hset2.cellX rfl k hlt hlt' 4 (by decide), hp]; rfl
    have z4 := World.ownsRow.frozenAt hset2.row (k * 5 + 4)
    have hset4 := cp_same hset2 rfl k hlt hlt' 4 (by decide) (.slice none 0 0) (by rw [hp]; rfl)
    have HS := Lib.hid hset4
    have hb4 := (hbr.setCell (p := ⟨w.heap.size, k * 5 + 2, none⟩) (Nat.le_refl _) (.slice none 0 0)).setCell (p := ⟨w.heap.size, k * 5 + 4, none⟩) (Nat.le_refl _) (.slice none 0 0)
    clear hset2 hset4 ho HCP hp
    go_wp2_with fail
    refine (cloneA_nil _).mono ?_
    rintro e w5 ⟨rfl, rfl⟩
    go_wp2_with fail
    refine (cloneI_nil _).mono ?_
    rintro e w5 ⟨rfl, rfl⟩
    go_wp2_with fail
    go_roundw
    case rel => exact ⟨k + 1, by go_num, by omega, HS, hb4⟩
    case measure => simp [RowKit.intOf]; omega
end Go.Proofs.YtkhgfngppcemlaaGreatDoor.scr
namespace Go.Proofs.YtkhgfngppcemlaaGreatDoor.scr
open Go Go.RowKit Go.ChangeShapes Go.WideShapes Go.ChangeAt Go.Lib Go.Proofs.YtkhgfngppcemlaaGreatDoor.doc Go.Proofs.YtkhgfngppcemlaaGreatDoor.atr Go.Proofs.YtkhgfngppcemlaaGreatDoor.ctl

theorem bare_row {w : World} {B : Nat} {v : Value} {l : List Nd} (h : CpR w B v l (l.map fun _ => nilP)) : RowAt w v l.length (l.flatMap (fun n => encN n nilP)) := by
  have := RowAt.of_owns h.row
  rwa [zip_nil] at this
theorem bare_snoc {w w9 : World} {B : Nat} {v v9 : Value} {l : List Nd} (h : CpR w B v l (l.map fun _ => nilP)) (n : Nd) (ha : n.attrs = []) (hk : n.kids = []) (o : Obj) (hg : (w.alloc o).grownBy w9 v.ownBlock)
    (h9 : w9.ownsRow B 84 5 v9 (l.length + 1) (l.flatMap (fun n => encN n nilP) ++ encN n nilP)) : CpR w9 B v9 (l ++ [n]) ((l ++ [n]).map fun _ => nilP) := by
  rw [List.map_append]
  refine h.snoc n nilP o ?_ ?_ hg ?_
  · rw [ha]; exact World.ownsRow_nil _ _ _ _
  · rw [hk]; exact World.ownsRow_nil _ _ _ _
  · rw [zip_nil]; exact h9
set_option maxHeartbeats 3200000 in
set_option maxRecDepth 100000 in
theorem tadd_form (v : Value) (l : List Nd) (hb : Bare l) (h1 : 0 < l.length) (hl : l.length ≤ 100) (hF : LFine l) (hR : rightB l = true) (B : Nat) (w : World) (hC : CpR w B v l (l.map fun _ => nilP)) :
    Calls Tryz.prog 137 #[v, .string ⟨#[102, 111, 114, 109]⟩, .string ⟨#[]⟩] w fun e w' => ∃ g cap, e = .returned (.tuple #[.slice (some ⟨g, 0, none⟩) (l.length + 1) cap, .int .i64 (l.length : Int), .int .i64 0]) ∧ CpR w' w.heap.size (.slice (some ⟨g, 0, none⟩) (l.length + 1) cap) (l ++ [ndF]) ((l ++ [ndF]).map fun _ => nilP) ∧ Below w.heap.size w w' := by
  obtain ⟨inn, hin, hzn, hzn1, hzn2⟩ := info_parts infoN
  have hr := right_any v l hF w hC.nodes
  rw [hR] at hr
  have hnm := fun w => named_any [102, 111, 114, 109] (by decide) w
  rw [show namedP [102, 111, 114, 109] = true from by decide] at hnm
  have hcp := fun w' (h : Below w.heap.size w w') => tcopied_nil l hb h1 (by omega) v w' (bare_row (hC.below h))
  obtain ⟨oa, cap0, rfl⟩ := NodesAt.lenN hC.nodes
  have HC := Lib.hid hcp
  have ne4 : ¬ (l.length : Int) = 400 := by omega
  clear hC hF hR hcp
  go_enter Tryz.func137, Tryz.ntmps137
  go_wp2_with fail
  refine hr.mono ?_
  rintro e w1 ⟨rfl, hb1⟩
  go_wp2_with fail
  refine (hnm _).mono ?_
  rintro e w2 ⟨rfl, rfl⟩
  go_wp2_with fail
  refine (HC.out _ hb1).mono ?_
  rintro e w3 ⟨g3, cap3, rfl, hcp3, hb3⟩
  have hrow3 := hcp3.row
  rw [zip_nil] at hrow3
  have hl13 := hb1.size
  have hl33 := hb3.size
  go_wp2_with (at_builtin; refine wpList_append_lies _ rfl _ _ 65 rfl w1.heap.size 84 inn _ 5 88 Tryz.underlying65 hin hzn hzn1 hzn2 rfl (by decide) _ _ _ rfl (World.ownsRow.alloc hrow3 _) ⟨w3.heap.size, 0, none⟩ 1 1 (encN ndF nilP) rfl rfl ?_ ?_ (by decide) ?_ ?_ ?_ _ rfl ?_)
  all_goals first | exact World.news_of_block (cs := #[.string ⟨#[102, 111, 114, 109]⟩, .string ⟨#[]⟩, .slice none 0 0, .int .i64 (-1), .slice none 0 0]) (t := 84) (fr := (0, 0)) (heap_alloc_new w3 _) | (intro u hu; simp only [encN, ndF, nilP, List.mem_cons, List.not_mem_nil, or_false] at hu; rcases hu with rfl | rfl | rfl | rfl | rfl <;> rfl) | (unfold maxLen; omega) | omega | (simp; omega) | skip
  intro g9 cap9 w9 hown9 hgrow9 hat9 hlt9
  have hb9 := (low_own hrow3 hb3 (by omega) _ hgrow9).1
  have hcp9 := bare_snoc hcp3 ndF rfl rfl _ hgrow9 hown9
  have H9 : Hid (CpR w9 w.heap.size (.slice (some ⟨g9, 0, none⟩) (l.length + 1) cap9) (l ++ [ndF]) ((l ++ [ndF]).map fun _ => nilP)) := Lib.hid ⟨hcp9.len, ownsRow_lower hcp9.row hl13, fun j a b => ownsRow_lower (hcp9.attrs j a b) hl13, fun j a b => ownsRow_lower (hcp9.kids j a b) hl13⟩
  have hb09 := below_trans hb1 hb9
  clear hown9 hgrow9 hat9 hcp9 hcp3 hrow3
  go_wp2_with fail
  go_ret3
  exact ⟨g9, cap9, rfl, H9.out, hb09⟩
end Go.Proofs.YtkhgfngppcemlaaGreatDoor.scr
