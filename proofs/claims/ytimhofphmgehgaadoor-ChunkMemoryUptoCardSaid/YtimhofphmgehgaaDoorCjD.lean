/- ChunkPrints answers true: out of the abstract machine. -/
import Derived.Test.YtimhofphmgehgaaDoorCjC
set_option linter.unusedVariables false
set_option linter.unnecessarySimpa false
set_option linter.unusedSimpArgs false
set_option linter.unusedSectionVars false
set_option maxRecDepth 100000
namespace Go.Proofs.YtimhofphmgehgaaDoor
open Go Go.RowKit Go.Proofs

theorem calls_sz {f : FuncId} {args : List AV} {cargs : Array Value} {W : World} (hS : Signs W) (hT : Tz W) (hsz : cargs.size = args.length)
    (hargs : ∀ (t : Nat) x u, args[t]? = some x → cargs[t]? = some u → Rel W (fun _ => 0) (old W) x u ∧ Bnd 0 x ∧ x.free = true)
    (h : ∀ (E : Env) (Q : AV → Hp → Prop), SZ E → Q (.bool true) [] → PC Tryd.prog E f args [] Q) : Calls Tryd.prog f cargs W fun e w' => e = .returned (.bool true) ∧ Frm (fun _ => False) W w' :=
  calls_of_pcF (fun b => b = 0 ∨ b = 6) (fun b hb => hb.elim (law_fix W hS b) (fun h => h ▸ World.block_lt_of_cell? _ _ hT)) (old W) (fun _ _ h => h) hsz hargs
    (fun E Q h0 hf hq => h E Q ⟨⟨by rw [hf]; exact .inl rfl, by rw [h0]; exact hS⟩, by rw [hf]; exact .inr rfl, by rw [h0]; exact hT⟩ hq)
section
variable (E : Env) (H : Hp) (Q : AV → Hp → Prop)
def lparInv (T : List Par) (H : Hp) (fr : List AV) (H' : Hp) : Prop := ∃ (J : Hp) (i : Nat), H' = H ++ J ∧ i ≤ T.length ∧ ∃ x : Nat → AV, fr = [x 0, x 1, x 2, .sl true 3 (prs (T.take i)), x 4, x 5, .sl false 3 (prs T), .int .i64 T.length, .int .i64 i, x 9, x 10, x 11, x 12, x 13, x 14, x 15, x 16, x 17, x 18, x 19, x 20, x 21, x 22, x 23]
theorem lpars_pc (T : List Par) (hl : T.length ≤ 1073741824) (hQ : Q (.sl true 3 (prs T)) H) : PC Tryd.prog E 37 [.sl false 3 (prs T)] H Q := by
  refine pc_enter Tryd.func37 rfl [12, 23] [] (by kernel_rfl) (fun hB => ?_)
  simp [Tryd.ntmps37, Tryd.results37, List.replicate_succ]
  refine VL_nil 3 3 (by rfl) ?_
  simp only [List.set_cons_succ, List.set_cons_zero]
  refine VL_go (lparInv T H) (fun fr _ => T.length - (ai (aget fr 8)).toNat) ⟨[], 0, by simp, by omega, fr_intro (by simp [prs])⟩ ?_
  rintro fr H' ⟨J, i, rfl, hi, x, rfl⟩
  by_cases h : i < T.length
  · obtain ⟨u, hu⟩ : ∃ u, T[i]? = some u := ⟨_, List.getElem?_eq_getElem h⟩
    have hat1 := prs_at hu
    have hw : IntKind.i64.wrap ((i : Int) + 1) = i + 1 := wrap_in (by omega) (by omega)
    have htk : T.take (i + 1) = T.take i ++ [u] := by rw [List.take_add_one, hu]; rfl
    obtain ⟨n1, v1, b1⟩ := u
    have m1 : min i T.length + 1 ≤ maxLen := by unfold maxLen; omega
    have m2 : (min i T.length + 1) * 40 ≤ 140737488355328 := by omega
    have hsn := prs_snoc (T.take i) ⟨n1, v1, b1⟩
    rw [← htk] at hsn
    simp only at hat1 hsn
    simp [h, hat1, m1, m2, hsn, hw]
    exact Kloop_normal ⟨_, i + 1, rfl, by omega, fr_intro (by simp)⟩ (by simp; omega)
  · obtain rfl : i = T.length := by omega
    simp
    exact aPost_same hB (v0 := .sl true 3 (prs T)) (by simp) (nilV_refl _) (by simp) hQ
def spareB : List UInt8 := [115, 112, 97, 114, 101]
theorem lprints_pc (hE : SZ E) (n : Int) (l : List Par) (hl : psz l + l.length ≤ 1048576) (hQ : Q (.bool true) H) : PC Tryd.prog E 9 [.int .i64 n, .sl false 3 (prs l)] H Q := by
  have hm : l.length ≤ maxLen ∧ l.length * 40 ≤ 140737488355328 := by unfold maxLen; omega
  have hm1 : l.length + 1 ≤ maxLen := by unfold maxLen; omega
  have hm2 : (l.length + 1) * 40 ≤ 140737488355328 := by omega
  have hsn : prs l ++ [[AV.str [115, 112, 97, 114, 101], .str [], .bool false]] = prs (l ++ [⟨spareB, [], false⟩]) := prs_snoc l ⟨spareB, [], false⟩
  refine pc_enter Tryd.func9 rfl [12, 14, 45] [] (by kernel_rfl) (fun hB => ?_)
  simp [Tryd.ntmps9, Tryd.results9, List.replicate_succ]
  refine lawake_pc E _ _ hE.1 ?_
  simp [hm, hm1, hm2]
  refine printSize_pc E _ _ hE n l (by omega) ?_
  simp
  refine lpars_pc E _ _ l (by omega) ?_
  simp
  refine dprintSize_pc E _ _ n l (by omega) ?_
  simp
  refine lpars_pc E _ _ l (by omega) ?_
  simp [hm1, hm2, hsn]
  refine sameP_pc E _ _ (l ++ [⟨spareB, [], false⟩]) (by simp [cap]; omega) ?_
  simp
  exact aPost_same0 hB rfl (nilV_refl _) (by simp) hQ
end
theorem pars_of_rows : ∀ (rows : List (List AV)), (∀ r ∈ rows, r.length = 3 ∧ ∀ (j : Nat) k y, [CK.str, .str, .bool][j]? = some k → r[j]? = some y → KindOf k y) → ∃ ls, rows = prs ls ∧ psz ls ≤ wtA rows.flatten
  | [], _ => ⟨[], rfl, by simp [psz]⟩
  | r :: rows, h => by
    obtain ⟨ls, rfl, hw⟩ := pars_of_rows rows (fun q hq => h q (List.mem_cons_of_mem _ hq))
    obtain ⟨h1, h2⟩ := h r (List.mem_cons_self ..)
    match r, h1 with
    | [a, b, c], _ =>
      have ha := h2 0 _ _ rfl rfl
      have hb := h2 1 _ _ rfl rfl
      have hc := h2 2 _ _ rfl rfl
      obtain ⟨x, rfl⟩ := kind_str ha
      obtain ⟨y, rfl⟩ := kind_str hb
      obtain ⟨z, rfl⟩ := kind_bool hc
      refine ⟨⟨x, y, z⟩ :: ls, rfl, ?_⟩
      rw [List.flatten_cons, wtA_app]
      simp [psz, wtA] at hw ⊢
      omega
theorem cprints_true (W : World) (n : Int) (bo : Option Addr) (len cap : Nat) (rows : List (List AV)) (hr : Rel W (fun _ => 0) (old W) (.sl false 3 rows) (.slice bo len cap)) (hn : Bnd 0 (.sl false 3 rows))
    (hk : ∀ r ∈ rows, r.length = 3 ∧ ∀ (j : Nat) k y, [CK.str, .str, .bool][j]? = some k → r[j]? = some y → KindOf k y) (e : rows.length = len) (hb : wtA rows.flatten + len ≤ 1048576) (hS : Signs W) (hT : Tz W) :
    Calls Tryd.prog 9 #[.int .i64 n, .slice bo len cap] W fun e w' => e = .returned (.bool true) ∧ Frm (fun _ => False) W w' := by
  obtain ⟨ls, rfl, hw⟩ := pars_of_rows rows hk
  refine calls_sz (args := [.int .i64 n, .sl false 3 (prs ls)]) hS hT rfl (fun t x u hx hu => ?_) (fun E Q hE h => lprints_pc E [] Q hE n ls (by simp at e; omega) h)
  match t with
  | 0 => simp at hx hu; subst hx; subst hu; exact ⟨.int _ _, .int _ _, rfl⟩
  | 1 => simp at hx hu; subst hx; subst hu; exact ⟨hr, hn, rfl⟩
  | t + 2 => simp at hx
end Go.Proofs.YtimhofphmgehgaaDoor
