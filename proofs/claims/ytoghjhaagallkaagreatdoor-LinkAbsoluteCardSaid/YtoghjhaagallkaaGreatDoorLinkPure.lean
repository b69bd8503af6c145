/- LinkCases, LinkBehind, LinkPorts: the plain laws on what an absolute address is. -/
import Derived.Test.YtoghjhaagallkaaGreatDoorAbsPure
namespace Go.Proofs.YtoghjhaagallkaaGreatDoor.link
open Go.Lib Go.Proofs.YtoghjhaagallkaaGreatDoor.str

theorem lowC_keeps (c : UInt8) : (lowC c = 58 → c = 58) ∧ plainB (lowC c) = plainB c ∧ markB (lowC c) = markB c ∧ digC (lowC c) = digC c ∧ lowC (lowC c) = lowC c := by
  have : ∀ n : Fin 256, (lowC (UInt8.ofNat n.1) = 58 → UInt8.ofNat n.1 = 58) ∧ plainB (lowC (UInt8.ofNat n.1)) = plainB (UInt8.ofNat n.1) ∧ markB (lowC (UInt8.ofNat n.1)) = markB (UInt8.ofNat n.1) ∧ digC (lowC (UInt8.ofNat n.1)) = digC (UInt8.ofNat n.1) ∧ lowC (lowC (UInt8.ofNat n.1)) = lowC (UInt8.ofNat n.1) := by decide +kernel
  have h := this ⟨c.toNat, c.toNat_lt⟩
  simpa using h

theorem lowS_low (l : List UInt8) : lowS (lowS l) = lowS l := by
  unfold lowS
  rw [List.map_map]
  apply List.map_congr_left
  intro c _
  exact (lowC_keeps c).2.2.2.2
theorem lowS_len (l : List UInt8) : (lowS l).length = l.length := by unfold lowS; simp

theorem sch_low (s : List UInt8) : ∀ f n, sch f s = some n → sch f (lowS (s.take n) ++ s.drop n) = some n := by
  induction s with
  | nil => intro f n h; cases h
  | cons c r ih =>
    intro f n h
    by_cases hc : c = 58
    · subst hc
      have h0 := h
      rw [sch_colon] at h
      cases f
      · cases h; exact h0
      · cases h
    · rw [sch_cons f c r hc] at h
      obtain ⟨k1, k2, k3, k4, _⟩ := lowC_keeps c
      split at h
      · rename_i hcond
        cases hr : sch false r with
        | none => rw [hr] at h; cases h
        | some m =>
          rw [hr] at h
          cases h
          show sch f (lowC c :: (lowS (r.take m) ++ r.drop m)) = some (m + 1)
          rw [sch_cons f _ _ (fun e => hc (k1 e)), k2, k3, k4, if_pos hcond, ih false m hr]
          rfl
      · cases h

theorem abs_cases (s : List UInt8) (n : Nat) (h : sch true s = some n) : absS (lowS (s.take n) ++ s.drop n) = absS s := by
  have hlt := sch_lt s true n h
  have h2 := sch_low s true n h
  have hlen : (lowS (s.take n)).length = n := by rw [lowS_len, List.length_take]; omega
  unfold absS
  rw [h, h2]
  dsimp only
  have e1 : (lowS (s.take n) ++ s.drop n).take n = lowS (s.take n) := by rw [List.take_append_of_le_length (by omega), List.take_of_length_le (by omega)]
  have e2 : (lowS (s.take n) ++ s.drop n).drop (n + 1) = s.drop (n + 1) := by
    rw [List.drop_append, List.drop_eq_nil_of_le (by omega), List.nil_append, hlen, List.drop_drop]
    congr 1; omega
  rw [e1, e2, lowS_low]

theorem abs_none (s : List UInt8) (h : sch true s = none) : absS s = false := by unfold absS; rw [h]

theorem sch_app (d : UInt8) (hd : d ≠ 58) (h1 : plainB d = false) (h2 : markB d = false) (more s : List UInt8) : ∀ f, sch f (s ++ d :: more) = sch f s := by
  induction s with
  | nil => intro f; rw [List.nil_append, sch_cons f d more hd, h1, h2]; rfl
  | cons c r ih =>
    intro f
    by_cases hc : c = 58
    · subst hc; rw [List.cons_append, sch_colon, sch_colon]
    · rw [List.cons_append, sch_cons f c _ hc, sch_cons f c _ hc, ih]

theorem cut1_none (c : UInt8) (l : List UInt8) (h : c ∉ l) : cut1 c l = (l, [], false) := by
  induction l with
  | nil => rfl
  | cons b r ih =>
    simp only [List.mem_cons, not_or] at h
    rw [cut1, if_neg (fun e => h.1 e.symm), ih h.2]
theorem cut1_hit (c : UInt8) (a b : List UInt8) (h : c ∉ a) : cut1 c (a ++ c :: b) = (a, b, true) := by
  induction a with
  | nil => rw [List.nil_append, cut1, if_pos rfl]
  | cons x r ih =>
    simp only [List.mem_cons, not_or] at h
    rw [List.cons_append, cut1, if_neg (fun e => h.1 e.symm), ih h.2]

theorem abs_app (d : UInt8) (hd : d ≠ 58) (h1 : plainB d = false) (h2 : markB d = false) (s more : List UInt8) (z : Bool)
    (hr : ∀ k a, (∀ c, c ∈ a → c ∈ s) → absR k (a ++ d :: more) = (absR k a && z)) : absS (s ++ d :: more) = (absS s && z) := by
  unfold absS
  rw [sch_app d hd h1 h2 more s true]
  cases h : sch true s with
  | none => rfl
  | some n =>
    have hlt := sch_lt s true n h
    dsimp only
    rw [List.take_append_of_le_length (by omega), List.drop_append_of_le_length (by omega)]
    exact hr _ _ (fun c hc => List.mem_of_mem_drop hc)

theorem abs_hash (s more : List UInt8) (h : (35 : UInt8) ∉ s) : absS (s ++ 35 :: more) = (absS s && fineS more) := by
  refine abs_app 35 (by decide) (by decide) (by decide) s more (fineS more) ?_
  intro k a ha
  have h35 : (35 : UInt8) ∉ a := fun g => h (ha _ g)
  unfold absR
  rw [cut1_hit 35 a more h35, cut1_none 35 a h35]
  dsimp only
  rw [fineS_nil]
  generalize fineS more = x
  generalize fineS (cut1 63 a).2.1 = y
  generalize absQ k (cut1 63 a).1 = t
  cases x <;> cases y <;> cases t <;> rfl

theorem abs_ask (s more : List UInt8) (h : (35 : UInt8) ∉ s) (h63 : (63 : UInt8) ∉ s) (hm : (35 : UInt8) ∉ more) : absS (s ++ 63 :: more) = (absS s && fineS more) := by
  refine abs_app 63 (by decide) (by decide) (by decide) s more (fineS more) ?_
  intro k a ha
  have g35 : (35 : UInt8) ∉ a := fun g => h (ha _ g)
  have g63 : (63 : UInt8) ∉ a := fun g => h63 (ha _ g)
  have g : (35 : UInt8) ∉ a ++ 63 :: more := by
    simp only [List.mem_append, List.mem_cons, not_or]
    exact ⟨g35, by decide, hm⟩
  unfold absR
  rw [cut1_none 35 _ g, cut1_none 35 a g35]
  dsimp only
  rw [cut1_hit 63 a more g63, cut1_none 63 a g63]
  dsimp only
  rw [fineS_nil]
  generalize fineS more = x
  generalize absQ k a = t
  cases x <;> cases t <;> rfl

/-! ports -/
/-- each colon stands in brackets that are still open -/
def ColonOk (h : List UInt8) : Prop := ∀ a b, h = a ++ 58 :: b → h.head? = some 91 ∧ (93 : UInt8) ∉ a

theorem brack_need (h : List UInt8) (h91 : h.head? = some 91) (h93 : (93 : UInt8) ∉ h) : hostS h = false := by
  unfold hostS brackS
  rw [if_pos h91]
  cases h with
  | nil => cases h91
  | cons a t =>
    simp only [List.tail_cons]
    have : (t.getLast? == some 93) = false := by
      cases hg : t.getLast? with
      | none => rfl
      | some c =>
        have hm : c ∈ t := List.mem_of_getLast? hg
        simp only [beq_eq_false_iff_ne, ne_eq, Option.some.injEq]
        rintro rfl
        exact h93 (List.mem_cons_of_mem _ hm)
    rw [this]; rfl

theorem lastB_none (c : UInt8) (l : List UInt8) (h : c ∉ l) : lastB c l = none := by
  rcases lastB_spec c l with ⟨h1, _⟩ | ⟨k, _, _, h3, _⟩
  · exact h1
  · exact absurd (List.mem_of_getElem? h3) h

theorem portS_host (h : List UInt8) (hc : ColonOk h) : portS h = hostS h := by
  unfold portS portHT
  rcases lastB_spec 58 h with ⟨h1, _⟩ | ⟨k, h1, h2, h3, h4⟩
  · rw [h1]; simp [portOk]
  · rw [h1]
    dsimp only
    by_cases hq : optI (lastB 93 h) < k
    · rw [if_pos hq]
      have e : h = h.take k ++ 58 :: h.drop (k + 1) := by
        have := List.drop_eq_getElem_cons h2
        have e2 : h[k] = 58 := by rw [List.getElem?_eq_getElem h2] at h3; exact Option.some.inj h3
        rw [e2] at this
        rw [← this, List.take_append_drop]
      obtain ⟨g1, g2⟩ := hc _ _ e
      have hk : 0 < k := by
        apply Nat.pos_of_ne_zero
        rintro rfl
        rw [List.head?_eq_getElem?, h3] at g1
        cases g1
      have g93 : (93 : UInt8) ∉ h := by
        intro hm
        rcases lastB_spec 93 h with ⟨_, n1⟩ | ⟨j, j1, j2, j3, j4⟩
        · exact n1 hm
        · rw [j1] at hq
          have hjk : j < k := by have : ((j : Int)) < k := hq; omega
          have : (h.take k)[j]? = some 93 := by rw [List.getElem?_take, if_pos hjk, j3]
          exact g2 (List.mem_of_getElem? this)
      have f1 := brack_need h g1 g93
      have f2 := brack_need (h.take k) (by
        rw [List.head?_eq_getElem?, List.getElem?_take, if_pos hk, ← List.head?_eq_getElem?]; exact g1) g2
      rw [f1]
      dsimp only
      rw [f2, Bool.and_false]
    · rw [if_neg hq]; simp [portOk]

theorem server_host (h : List UInt8) (hc : ColonOk h) (h64 : (64 : UInt8) ∉ h) : serverS h = hostS h := by
  unfold serverS
  rw [lastB_none 64 h h64]
  exact portS_host h hc

theorem sch_http (x : List UInt8) : sch true (104 :: 116 :: 116 :: 112 :: 58 :: x) = some 4 := by
  rw [sch_cons _ _ _ (by decide), sch_cons _ _ _ (by decide), sch_cons _ _ _ (by decide), sch_cons _ _ _ (by decide), sch_colon]
  decide

theorem firstN_none (c : UInt8) (l : List UInt8) (h : c ∉ l) : firstN c l = l.length := by unfold firstN; rw [cut1_none c l h]
theorem firstN_hit (c : UInt8) (a b : List UInt8) (h : c ∉ a) : firstN c (a ++ c :: b) = a.length := by unfold firstN; rw [cut1_hit c a b h]

theorem abs_http (x : List UInt8) (h35 : (35 : UInt8) ∉ x) (h63 : (63 : UInt8) ∉ x) : absS (104 :: 116 :: 116 :: 112 :: 58 :: 47 :: 47 :: x) = absW 0 x := by
  unfold absS
  rw [sch_http]
  show absR (kindS (lowS [104, 116, 116, 112])) (47 :: 47 :: x) = _
  have hk : kindS (lowS [104, 116, 116, 112]) = 0 := by decide
  rw [hk]
  unfold absR
  have g35 : (35 : UInt8) ∉ 47 :: 47 :: x := by simp only [List.mem_cons, not_or]; exact ⟨by decide, by decide, h35⟩
  have g63 : (63 : UInt8) ∉ 47 :: 47 :: x := by simp only [List.mem_cons, not_or]; exact ⟨by decide, by decide, h63⟩
  rw [cut1_none 35 _ g35]
  dsimp only
  rw [cut1_none 63 _ g63]
  dsimp only
  rw [fineS_nil]
  show absQ 0 (47 :: 47 :: x) = _
  unfold absQ
  rw [if_pos (by simp [Lib.hasPrefix, List.isPrefixOf])]
  rfl

theorem abs_port0 (h : List UInt8) (hc : ColonOk h) (h64 : (64 : UInt8) ∉ h) (h47 : (47 : UInt8) ∉ h) (h35 : (35 : UInt8) ∉ h) (h63 : (63 : UInt8) ∉ h) :
    absS (104 :: 116 :: 116 :: 112 :: 58 :: 47 :: 47 :: h) = hostS h := by
  rw [abs_http h h35 h63]
  unfold absW
  rw [firstN_none 47 h h47, List.drop_length, List.take_length, fineS_nil, if_pos rfl, Bool.true_and, server_host h hc h64]

theorem digs_not (ds : List UInt8) (hd : digsA ds = true) (c : UInt8) (hc : digC c = false) : c ∉ ds := by
  rw [digsA_all, List.all_eq_true] at hd
  intro g
  rw [hd c g] at hc
  cases hc

theorem lastB_right (c : UInt8) (a b : List UInt8) (h : c ∉ b) : lastB c (a ++ b) = lastB c a := by
  rcases lastB_spec c a with ⟨h1, h2⟩ | ⟨k, h1, h2, h3, h4⟩
  · rw [h1]; exact lastB_none c _ (by simp only [List.mem_append, not_or]; exact ⟨h2, h⟩)
  · rcases lastB_spec c (a ++ b) with ⟨g1, g2⟩ | ⟨j, g1, g2, g3, g4⟩
    · exact absurd (List.mem_append_left b (List.mem_of_getElem? h3)) g2
    · rw [h1, g1]
      congr 1
      have hja : j < a.length := by
        apply Nat.lt_of_not_le; intro hge
        rw [List.getElem?_append_right hge] at g3
        exact h (List.mem_of_getElem? g3)
      rw [List.getElem?_append_left hja] at g3
      rcases Nat.lt_trichotomy j k with hlt | heq | hgt
      · exfalso
        apply g4
        have : ((a ++ b).drop (j + 1))[k - (j + 1)]? = some c := by
          rw [List.getElem?_drop, show j + 1 + (k - (j + 1)) = k from by omega, List.getElem?_append_left h2]; exact h3
        exact List.mem_of_getElem? this
      · exact heq
      · exfalso
        apply h4
        have : (a.drop (k + 1))[j - (k + 1)]? = some c := by
          rw [List.getElem?_drop, show k + 1 + (j - (k + 1)) = j from by omega]; exact g3
        exact List.mem_of_getElem? this

theorem lastB_at (c : UInt8) (a b : List UInt8) (h : c ∉ b) : lastB c (a ++ c :: b) = some a.length := by
  have : a ++ c :: b = (a ++ [c]) ++ b := by simp
  rw [this, lastB_right c _ b h, lastB_snoc, if_pos rfl]

theorem abs_port (h ds : List UInt8) (h64 : (64 : UInt8) ∉ h) (h47 : (47 : UInt8) ∉ h) (h35 : (35 : UInt8) ∉ h) (h63 : (63 : UInt8) ∉ h)
    (hd : digsB ds = true) (hv : valN 0 ds ≤ 65535) : absS (104 :: 116 :: 116 :: 112 :: 58 :: 47 :: 47 :: (h ++ 58 :: (ds ++ [47]))) = hostS h := by
  have hda : digsA ds = true := by unfold digsB at hd; rw [Bool.and_eq_true] at hd; exact hd.2
  have dn := fun c hc => digs_not ds hda c hc
  have hn : ∀ c : UInt8, c ≠ 58 → digC c = false → c ≠ 47 → c ∉ h → c ∉ h ++ 58 :: (ds ++ [47]) := by
    intro c h1 h2 h3 h4
    simp only [List.mem_append, List.mem_cons, List.not_mem_nil, or_false, not_or]
    exact ⟨h4, h1, dn c h2, h3⟩
  rw [abs_http _ (hn 35 (by decide) (by decide) (by decide) h35) (hn 63 (by decide) (by decide) (by decide) h63)]
  have e : h ++ 58 :: (ds ++ [47]) = (h ++ 58 :: ds) ++ 47 :: [] := by simp
  have h47b : (47 : UInt8) ∉ h ++ 58 :: ds := by
    simp only [List.mem_append, List.mem_cons, not_or]
    exact ⟨h47, by decide, dn 47 (by decide)⟩
  rw [e]
  unfold absW
  rw [firstN_hit 47 _ _ h47b, List.drop_left, List.take_left, if_pos rfl]
  have f47 : fineS [47] = true := by decide +kernel
  rw [f47, Bool.true_and]
  unfold serverS
  rw [lastB_none 64 _ (by
    simp only [List.mem_append, List.mem_cons, not_or]
    exact ⟨h64, by decide, dn 64 (by decide)⟩)]
  unfold portS portHT
  rw [lastB_at 58 h ds (dn 58 (by decide))]
  dsimp only
  have hq : optI (lastB 93 (h ++ 58 :: ds)) < h.length := by
    rw [lastB_right 93 h (58 :: ds) (by simp only [List.mem_cons, not_or]; exact ⟨by decide, dn 93 (by decide)⟩)]
    rcases lastB_spec 93 h with ⟨h1, _⟩ | ⟨k, h1, h2, _⟩
    · rw [h1]; show (-1 : Int) < _; omega
    · rw [h1]; show (k : Int) < _; omega
  rw [if_pos hq]
  have e2 : (h ++ 58 :: ds).drop (h.length + 1) = ds := by
    rw [List.drop_append, List.drop_eq_nil_of_le (by omega), List.nil_append, show h.length + 1 - h.length = 1 from by omega]; rfl
  rw [e2, List.take_left]
  unfold portOk
  rw [hd, decide_eq_true hv]
  simp
end Go.Proofs.YtoghjhaagallkaaGreatDoor.link
