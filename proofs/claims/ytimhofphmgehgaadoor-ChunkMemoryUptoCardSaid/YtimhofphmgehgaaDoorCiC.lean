/- ChunkCuts. -/
import Derived.Test.YtimhofphmgehgaaDoorCiB
set_option linter.unusedVariables false
set_option linter.unnecessarySimpa false
set_option linter.unusedSimpArgs false
set_option linter.unusedSectionVars false
set_option maxRecDepth 100000
namespace Go.Proofs.YtimhofphmgehgaaDoor
open Go Go.RowKit Go.Proofs

theorem feedD_stopcat : ∀ (a : List UInt8) (d e : Dec) (s : List UInt8), feedD d a = (e, a.length) → (e.done = true ∨ e.err ≠ 0) → a ≠ [] → feedD d (a ++ s) = (e, a.length)
  | [], d, e, s, h, _, hne => absurd rfl hne
  | b :: a, d, e, s, h, hs, _ => by
    rw [List.cons_append, feedD_cons]
    rw [feedD_cons] at h
    by_cases hc : (feed1 d b).done = true ∨ (feed1 d b).err ≠ 0
    · rw [if_pos hc] at h ⊢
      exact h
    · rw [if_neg hc] at h ⊢
      have h1 := Prod.mk.inj h
      have h2 : (feedD (feed1 d b) a).2 = a.length := by have := h1.2; simp at this; omega
      by_cases ha : a = []
      · subst ha
        have h3 := h1.1
        simp [feedD] at h3
        rw [← h3] at hs
        exact absurd hs hc
      · rw [feedD_stopcat a (feed1 d b) e s (by rw [← h1.1, ← h2]) hs ha]
        simp
def ints (l : List Int) : List (List AV) := l.map fun z => [.int .i64 z]
@[simp] theorem ints_len (l : List Int) : (ints l).length = l.length := by simp [ints]
theorem ints_at {l : List Int} {i : Nat} {z : Int} (h : l[i]? = some z) : lat (ints l) i = some [.int .i64 z] := by simp [lat, ints, h]
section
variable (E : Env) (H : Hp) (Q : AV → Hp → Prop)
def plainInv (T : List Fld) (H : Hp) (fr : List AV) (H' : Hp) : Prop := ∃ (J : Hp) (i : Nat), H' = H ++ J ∧ i ≤ T.length ∧ ∃ x : Nat → AV, fr = [x 0, x 1, x 2, .sl true 2 (flds (T.take i)), x 4, x 5, .sl false 2 (flds T), .int .i64 T.length, .int .i64 i, x 9, x 10, x 11, x 12, x 13, x 14, x 15, x 16, x 17, x 18, x 19, x 20, x 21]
theorem plain_pc (T : List Fld) (hl : T.length ≤ 1073741824) (hQ : Q (.sl false 2 (flds T)) H) : PC Tryd.prog E 34 [.sl false 2 (flds T)] H Q := by
  refine pc_enter Tryd.func34 rfl [12] [] (by kernel_rfl) (fun hB => ?_)
  simp [Tryd.ntmps34, Tryd.results34, List.replicate_succ]
  refine VL_nil 3 2 (by rfl) ?_
  simp only [List.set_cons_succ, List.set_cons_zero]
  refine VL_go (plainInv T H) (fun fr _ => T.length - (ai (aget fr 8)).toNat) ⟨[], 0, by simp, by omega, fr_intro (by simp [flds])⟩ ?_
  rintro fr H' ⟨J, i, rfl, hi, x, rfl⟩
  by_cases h : i < T.length
  · obtain ⟨u, hu⟩ : ∃ u, T[i]? = some u := ⟨_, List.getElem?_eq_getElem h⟩
    have hat1 := flds_at hu
    have hw : IntKind.i64.wrap ((i : Int) + 1) = i + 1 := wrap_in (by omega) (by omega)
    have htk : T.take (i + 1) = T.take i ++ [u] := by rw [List.take_add_one, hu]; rfl
    obtain ⟨n1, v1⟩ := u
    have m1 : min i T.length + 1 ≤ maxLen := by unfold maxLen; omega
    have m2 : (min i T.length + 1) * 32 ≤ 140737488355328 := by omega
    have hsn := flds_snoc (T.take i) ⟨n1, v1⟩
    rw [← htk] at hsn
    simp only at hat1 hsn
    simp [h, hat1, m1, m2, hsn, hw]
    exact Kloop_normal ⟨_, i + 1, rfl, by omega, fr_intro (by simp)⟩ (by simp; omega)
  · obtain rfl : i = T.length := by omega
    simp
    exact aPost_same hB (v0 := .sl false 2 (flds T)) (by simp) (nilV_refl _) (by simp) hQ
def cutInv (m r f : Int) (s : List UInt8) (cs : List Int) (da : Dec) (n : Nat) (H : Hp) (fr : List AV) (H' : Hp) : Prop :=
  ∃ (i k : Nat) (db : Dec), H' = H ++ [[.int .i64 m, .int .i64 r, .int .i64 f], da.av, db.av] ∧ i ≤ cs.length ∧ k ≤ s.length ∧ feedD (newD m r f) (s.take k) = (db, k) ∧
    ∃ x : Nat → AV, fr = [.str s, x 1, x 2, x 3, x 4, x 5, x 6, .ptr (some (H.length + 1, 0)), .int .i64 da.err, .ptr (some (H.length + 2, 0)), .int .i64 db.err, .int .i64 n, .int .i64 k, .str (s.drop k), x 14, x 15, x 16, x 17, x 18, x 19, x 20, x 21, x 22, x 23, x 24, x 25, x 26, x 27, x 28, x 29, x 30, x 31, x 32, x 33, x 34, x 35, x 36, x 37, x 38, x 39, x 40, x 41, x 42, x 43, x 44, x 45, x 46, x 47, x 48, x 49, x 50, x 51, x 52, x 53, x 54, x 55, x 56, x 57, x 58, x 59, x 60, x 61, x 62, x 63, x 64, x 65, x 66, x 67, x 68, x 69, x 70, x 71, x 72, x 73, x 74, x 75, x 76, .sl false 1 (ints cs), .int .i64 cs.length, .int .i64 i, x 80, x 81, x 82, x 83, x 84, x 85, x 86, x 87, x 88, x 89, x 90, x 91, x 92, x 93, x 94, x 95, x 96, x 97, x 98, x 99, x 100, x 101, x 102, x 103, x 104, x 105, x 106, x 107, x 108, x 109, x 110, x 111, x 112, x 113, x 114, x 115, x 116, x 117, x 118, x 119, x 120, x 121, x 122, x 123, x 124, x 125, x 126, x 127, x 128, x 129, x 130, x 131, x 132, x 133, x 134, x 135, x 136, x 137, x 138, x 139, x 140, x 141, x 142, x 143, x 144, x 145, x 146, x 147, x 148, x 149, x 150, x 151, x 152, x 153, x 154, x 155, x 156, x 157, x 158, x 159, x 160, x 161, x 162, x 163, x 164, x 165, x 166, x 167, x 168, x 169, x 170, x 171, x 172, x 173, x 174, x 175, x 176, x 177, x 178, x 179, x 180, x 181, x 182]
set_option maxHeartbeats 4000000 in
theorem lcuts_pc (hE : SE E) (m r f : Int) (h1 : m ≤ 9223372036854775807) (h2 : r ≤ 9223372036854775807) (h3 : f ≤ 9223372036854775807) (s : List UInt8) (hs : s.length ≤ 1048576) (cs : List Int) (hl : cs.length ≤ 1048576) (hok : ∀ z ∈ cs, -9223372036854775808 ≤ z ∧ z ≤ 9223372036854775807) (hQ : Q (.bool true) H) :
    PC Tryd.prog E 8 [.str s, .sl false 1 (ints cs), .agg [.int .i64 m, .int .i64 r, .int .i64 f]] H Q := by
  refine pc_enter Tryd.func8 rfl [] [] (by kernel_rfl) (fun hB => ?_)
  simp [Tryd.ntmps8, Tryd.results8, List.replicate_succ]
  refine lawake_pc E _ _ hE ?_
  by_cases g1 : m < 0
  · simp [g1]
    exact aPost_same hB rfl (nilV_refl _) (by simp) hQ
  by_cases g2 : r < 0
  · simp [g1, g2]
    exact aPost_same hB rfl (nilV_refl _) (by simp) hQ
  by_cases g3 : f < 0
  · simp [g1, g2, g3]
    exact aPost_same hB rfl (nilV_refl _) (by simp) hQ
  simp [g1, g2, g3]
  have hnew := newD_ok m r f ⟨by omega, h1⟩ ⟨by omega, h2⟩ ⟨by omega, h3⟩
  refine cnew_pc E _ _ m r f (fun _ _ _ => ?_) (fun hneg => by omega)
  simp
  refine cnew_pc E _ _ m r f (fun _ _ _ => ?_) (fun hneg => by omega)
  simp
  obtain ⟨⟨da, n⟩, hda⟩ : ∃ q, feedD (newD m r f) s = q := ⟨_, rfl⟩
  have hna := feedD_le s (newD m r f)
  obtain ⟨hoka, hta⟩ := feedD_ok s (newD m r f) hnew
  rw [hda] at hna hoka hta
  simp only at hna hoka hta
  have hn0 : (newD m r f).total = 0 := rfl
  rw [hn0] at hta
  refine feed_pc E _ _ (H.length + 1) (newD m r f) (by simp) hE s hnew (by rw [hn0]; omega) (fun _ _ => ?_) (fun hbad => by simp [newD] at hbad)
  simp [hda]
  refine VL_go (cutInv m r f s cs da n H) (fun fr _ => cs.length - (ai (aget fr 79)).toNat) ⟨0, 0, newD m r f, rfl, by omega, by omega, by simp [feedD], fr_intro (by simp [newD])⟩ ?_
  rintro fr H' ⟨i, k, db, rfl, hi, hk, hdb, x, rfl⟩
  obtain ⟨hokb, htb⟩ := feedD_ok (s.take k) (newD m r f) hnew
  rw [hdb] at hokb htb
  simp only at hokb htb
  rw [hn0] at htb
  have hdone : db.done = true → db.err = 0 := by have := feedD_done (s.take k) (newD m r f) rfl rfl; rw [hdb] at this; exact this
  have hsp : s.take k ++ s.drop k = s := List.take_append_drop k s
  have hkl : (s.take k).length = k := by rw [List.length_take]; omega
  have hgo : db.done = false → db.err = 0 → feedD (newD m r f) s = ((feedD db (s.drop k)).1, (feedD db (s.drop k)).2 + k) := fun a b => by
    have := feedD_cat (s.take k) (newD m r f) db (s.drop k) (by rw [hdb, hkl]) ⟨a, b⟩
    rw [hsp, hkl] at this; exact this
  have hstop : (db.done = true ∨ db.err ≠ 0) → da = db ∧ n = k := fun a => by
    have hne : s.take k ≠ [] := by
      intro e
      rw [e] at hdb
      have := (Prod.mk.inj hdb).1
      rw [← this] at a
      simp [newD] at a
    have := feedD_stopcat (s.take k) (newD m r f) db (s.drop k) (by rw [hdb, hkl]) a hne
    rw [hsp, hda, hkl] at this
    exact ⟨(Prod.mk.inj this).1, (Prod.mk.inj this).2⟩
  obtain ⟨rest, hrest⟩ : ∃ q, s.drop k = q := ⟨_, rfl⟩
  have hrl : rest.length = s.length - k := by rw [← hrest, List.length_drop]
  rw [hrest] at hgo ⊢
  have hcase : (i < cs.length ∧ db.done = false ∧ db.err = 0) ∨ (i < cs.length ∧ db.done = true) ∨ (i < cs.length ∧ db.done = false ∧ db.err ≠ 0) ∨ cs.length ≤ i := by
    by_cases h : i < cs.length
    · cases hd : db.done
      · by_cases he : db.err = 0
        · exact .inl ⟨h, rfl, he⟩
        · exact .inr (.inr (.inl ⟨h, rfl, he⟩))
      · exact .inr (.inl ⟨h, rfl⟩)
    · exact .inr (.inr (.inr (by omega)))
  rcases hcase with ⟨h, hd, he⟩ | ⟨h, hd⟩ | ⟨h, hd, he⟩ | h
  · obtain ⟨z, hz⟩ : ∃ z, cs[i]? = some z := ⟨_, List.getElem?_eq_getElem h⟩
    have hat := ints_at hz
    have hzr := hok z (List.mem_of_getElem? hz)
    have hw : IntKind.i64.wrap ((rest.length : Int) + 1) = ((rest.length + 1 : Nat) : Int) := by rw [wrap_in (by omega) (by omega)]; omega
    simp [h, hat]
    refine done_pc E _ _ (H.length + 2) db (by simp) ?_
    simp [hd]
    refine err_pc E _ _ (H.length + 2) db (by simp) ?_
    simp [he, hw, -Int.natCast_add]
    refine lkind_pc E _ _ z _ (by omega) (by omega) hzr.1 hzr.2 ?_
    obtain ⟨kk, hkk⟩ : ∃ kk : Nat, z % ((rest.length + 1 : Nat) : Int) = kk := ⟨(z % ((rest.length + 1 : Nat) : Int)).toNat, by have := Int.emod_nonneg z (show ((rest.length + 1 : Nat) : Int) ≠ 0 by omega); omega⟩
    have hkk2 : kk ≤ rest.length := by have := Int.emod_lt_of_pos z (show (0 : Int) < ((rest.length + 1 : Nat) : Int) by omega); omega
    rw [hkk]
    obtain ⟨⟨d2, n2⟩, hf2⟩ : ∃ q, feedD db (rest.take kk) = q := ⟨_, rfl⟩
    have hle2 := feedD_le (rest.take kk) db
    have htk2 := feedD_take (rest.take kk) db
    rw [hf2] at hle2 htk2
    simp only [List.length_take] at hle2 htk2
    rw [List.take_take, show min n2 kk = n2 by omega] at htk2
    have hnext : feedD (newD m r f) (s.take (k + n2)) = (d2, k + n2) := by
      have hcat := feedD_cat (s.take k) (newD m r f) db (rest.take n2) (by rw [hdb, hkl]) ⟨hd, he⟩
      rw [htk2, hkl] at hcat
      rw [List.take_add, hrest, hcat, Nat.add_comm]
    have hng : ¬ (db.done = true ∨ db.err ≠ 0) := by
      rintro (hb | hb)
      · rw [hd] at hb; cases hb
      · exact hb he
    have htl : (s.drop (k + n2)).take (rest.length - n2) = s.drop (k + n2) := List.take_of_length_le (by rw [List.length_drop]; omega)
    have hdr : rest.drop n2 = s.drop (k + n2) := by rw [← hrest, List.drop_drop]
    have hn2 : n2 ≤ kk := by omega
    have hn3 : n2 ≤ rest.length := by omega
    have hw2 : IntKind.i64.wrap ((k : Int) + n2) = ((k + n2 : Nat) : Int) := by rw [wrap_in (by omega) (by omega)]; omega
    have hw3 : IntKind.i64.wrap ((i : Int) + 1) = i + 1 := wrap_in (by omega) (by omega)
    simp [hkk2]
    refine feed_pc E _ _ (H.length + 2) db (by simp) hE (rest.take kk) hokb (by rw [List.length_take]; omega) (fun _ _ => ?_) (fun hbad => absurd hbad hng)
    have hkn : ¬ (kk : Int) < n2 := by omega
    simp [hf2, hkn, hn3, hdr, htl, hw2, hw3, -Int.natCast_add]
    exact Kloop_normal ⟨i + 1, k + n2, d2, rfl, by omega, by omega, hnext, fr_intro (by simp)⟩ (by simp; omega)
  case' inr.inl =>
    obtain ⟨z, hz⟩ : ∃ z, cs[i]? = some z := ⟨_, List.getElem?_eq_getElem h⟩
    have hat := ints_at hz
    simp [h, hat]
    refine done_pc E _ _ (H.length + 2) db (by simp) ?_
    simp [hd]
    clear h hd hat hz
  case' inr.inr.inl =>
    obtain ⟨z, hz⟩ : ∃ z, cs[i]? = some z := ⟨_, List.getElem?_eq_getElem h⟩
    have hat := ints_at hz
    have he2 : (db.err != 0) = true := by simpa using he
    simp [h, hat]
    refine done_pc E _ _ (H.length + 2) db (by simp) ?_
    simp [hd]
    refine err_pc E _ _ (H.length + 2) db (by simp) ?_
    simp [he2]
    clear h hd he he2 hat hz
  case' inr.inr.inr =>
    have h' : ¬ i < cs.length := by omega
    simp [h']
    clear h h'
  all_goals
    refine done_pc E _ _ (H.length + 2) db (by simp) ?_
    have hlast : (db.done = true ∨ db.err ≠ 0) ∨ (db.done = false ∧ db.err = 0) := by
      cases hd : db.done
      · by_cases he : db.err = 0
        · exact .inr ⟨rfl, he⟩
        · exact .inl (.inr he)
      · exact .inl (.inl rfl)
    rcases hlast with hst | ⟨hd, he⟩
    case' inr =>
      have hg := hgo hd he
      rw [hda] at hg
      obtain ⟨⟨d2, n2⟩, hf2⟩ : ∃ q, feedD db rest = q := ⟨_, rfl⟩
      rw [hf2] at hg
      obtain ⟨e1, e2⟩ := Prod.mk.inj hg
      simp only at e1 e2
      have hng : ¬ (db.done = true ∨ db.err ≠ 0) := by
        rintro (hb | hb)
        · rw [hd] at hb; cases hb
        · exact hb he
      have hw : IntKind.i64.wrap ((k : Int) + n2) = n := by rw [wrap_in (by omega) (by omega)]; omega
      simp [hd]
      refine err_pc E _ _ (H.length + 2) db (by simp) ?_
      simp [he]
      refine feed_pc E _ _ (H.length + 2) db (by simp) hE rest hokb (by omega) (fun _ _ => ?_) (fun hbad => absurd hbad hng)
      subst e1
      simp [hf2, hw]
      clear hng hg hf2 e2 hw hd he hgo hstop hdone hdb htb hokb hrest hrl hkl hsp
    case' inl =>
      obtain ⟨e1, e2⟩ := hstop hst
      subst e1
      subst e2
      have hdd : (!da.done && decide (da.err = 0)) = false := by
        rcases hst with h | h
        · rw [h]; rfl
        · simp [h]
      have hcs : da.done = true ∨ (da.done = false ∧ (da.err == 0) = false) := by
        cases hd : da.done
        · rcases hst with h | h
          · rw [hd] at h; cases h
          · exact .inr ⟨rfl, by simpa using h⟩
        · exact .inl rfl
      clear hst hstop hgo hdd hdone hdb htb hokb hrest hrl hkl hsp
      rcases hcs with hd | ⟨hd, he⟩
      case' inl => simp [hd]
      case' inr =>
        simp [hd]
        refine err_pc E _ _ (H.length + 2) da (by simp) ?_
        simp [he]
  all_goals
    refine total_pc E _ _ (H.length + 1) da (by simp) ?_
    simp [hta]
    refine total_pc E _ _ (H.length + 2) da (by simp) ?_
    simp [hta]
    refine body_pc E _ _ (H.length + 1) da (by simp) (by have := hoka.2.1; omega) ?_
    simp
    refine body_pc E _ _ (H.length + 2) da (by simp) (by have := hoka.2.1; omega) ?_
    simp
    refine done_pc E _ _ (H.length + 1) da (by simp) ?_
    simp
    refine done_pc E _ _ (H.length + 2) da (by simp) ?_
    simp
    refine err_pc E _ _ (H.length + 1) da (by simp) ?_
    simp
    refine err_pc E _ _ (H.length + 2) da (by simp) ?_
    simp
    refine trailers_pc E _ _ (H.length + 1) da (by simp) (by have := hoka.2.2.1; omega) ?_
    simp
    refine trailers_pc E _ _ (H.length + 2) da (by simp) (by have := hoka.2.2.1; omega) ?_
    simp
    refine plain_pc E _ _ da.trailers (by have := hoka.2.2.1; omega) ?_
    simp
    refine same_pc E _ _ da.trailers (by have := hoka.2.2.1; omega) ?_
    simp
    exact aPost_same hB rfl (nilV_refl _) (by simp) hQ
end
theorem kind_int1 {rows : List (List AV)} (hk : ∀ r ∈ rows, r.length = 1 ∧ ∀ (j : Nat) k y, ([.int .i64] : List CK)[j]? = some k → r[j]? = some y → KindOf k y) : ∃ cs : List Int, rows = ints cs ∧ ∀ z ∈ cs, -9223372036854775808 ≤ z ∧ z ≤ 9223372036854775807 := by
  induction rows with
  | nil => exact ⟨[], rfl, fun z hz => by cases hz⟩
  | cons r rows ih =>
    obtain ⟨cs, rfl, hc⟩ := ih (fun q hq => hk q (List.mem_cons_of_mem _ hq))
    obtain ⟨h1, h2⟩ := hk r (List.mem_cons_self ..)
    match r, h1 with
    | [a0], _ =>
      obtain ⟨z0, rfl, w0⟩ := kind_i64 (h2 0 _ _ rfl rfl)
      refine ⟨z0 :: cs, rfl, fun z hz => ?_⟩
      rcases List.mem_cons.1 hz with rfl | hz
      · exact w0
      · exact hc z hz
theorem ccuts_true (W : World) (s : ByteArray) (hs : s.size ≤ 1048576) (bo : Option Addr) (len cap : Nat) (rows : List (List AV)) (hr : Rel W (fun _ => 0) (old W) (.sl false 1 rows) (.slice bo len cap)) (hn : Bnd 0 (.sl false 1 rows))
    (hk : ∀ r ∈ rows, r.length = 1 ∧ ∀ (j : Nat) k y, ([.int .i64] : List CK)[j]? = some k → r[j]? = some y → KindOf k y) (e : rows.length = len) (hb : wtA rows.flatten + len ≤ 1048576) (cs : Array Value) (ks : List AV) (op : Opened W [.int .i64, .int .i64, .int .i64] cs.toList ks) (hS : Signs W) :
    Calls Tryd.prog 8 #[.string s, .slice bo len cap, .agg cs] W fun e w' => e = .returned (.bool true) ∧ Frm (fun _ => False) W w' := by
  obtain ⟨m, r, f, rfl, w0, w1, w2, hrl⟩ := rel_limits op
  obtain ⟨zs, rfl, hz⟩ := kind_int1 hk
  refine calls_signs (args := [.str s.data.toList, .sl false 1 (ints zs), .agg [.int .i64 m, .int .i64 r, .int .i64 f]]) hS rfl (fun t x u hx hu => ?_) (fun E Q hE h => lcuts_pc E [] Q hE m r f w0.2 w1.2 w2.2 s.data.toList (by rw [size_toList]; omega) zs (by simp at e; omega) hz h)
  match t with
  | 0 => simp at hx hu; subst hx; subst hu; exact rel_stringW W s hs
  | 1 => simp at hx hu; subst hx; subst hu; exact ⟨hr, hn, rfl⟩
  | 2 => simp at hx hu; subst hx; subst hu; exact hrl
  | t + 3 => simp at hx
end Go.Proofs.YtimhofphmgehgaaDoor
