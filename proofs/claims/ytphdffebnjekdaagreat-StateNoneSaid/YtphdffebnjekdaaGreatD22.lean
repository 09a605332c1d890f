/- Contracts of Apply on nil, Rows on nil, Same on two empty rows, works. -/
import Derived.Test.YtphdffebnjekdaaGreatC22
namespace Go.Xe
open Go Go.Proofs Go.RowKit
set_option maxRecDepth 100000
theorem isA_eq {u v : AV} {H : Heap} (h : isA u v H = true) : v = u := beqA_eq h
def rowsV : Value := .agg #[.int .i64 0, .slice none 0 0, .slice none 0 0, .slice none 0 0, .slice none 0 0, .slice none 0 0]
theorem gvs_cmdA (n0 n1 n2 n4 n5 n6 n7 n8 n11 n12 n13 n14 n15 n17 n18 n21 n22 n23 n24 n26 n28 n29 n30 n31 n32 : Int) (s3 s9 s10 s16 s19 s20 s25 s27 : ByteArray) (s : Pl) :
    gvs s [.nilp, cmdA n0 n1 n2 n4 n5 n6 n7 n8 n11 n12 n13 n14 n15 n17 n18 n21 n22 n23 n24 n26 n28 n29 n30 n31 n32 s3 s9 s10 s16 s19 s20 s25 s27] =
      some [.pointer none, cmd n0 n1 n2 n4 n5 n6 n7 n8 n11 n12 n13 n14 n15 n17 n18 n21 n22 n23 n24 n26 n28 n29 n30 n31 n32 s3 s9 s10 s16 s19 s20 s25 s27] := by
  unfold cmdA cmd
  simp only [gvs, gv]
theorem apply_calls {n0 : Int} (h0 : 0 ≤ n0 ∧ n0 ≤ 255) (n1 n2 n4 n5 n6 n7 n8 n11 n12 n13 n14 n15 n17 n18 n21 n22 n23 n24 n26 n28 n29 n30 n31 n32 : Int) (s3 s9 s10 s16 s19 s20 s25 s27 : ByteArray) (w : World) :
    Calls Tryz.prog 12 #[.pointer none, cmd n0 n1 n2 n4 n5 n6 n7 n8 n11 n12 n13 n14 n15 n17 n18 n21 n22 n23 n24 n26 n28 n29 n30 n31 n32 s3 s9 s10 s16 s19 s20 s25 s27] w fun e w' => e = .returned (.int .i64 1) ∧ Below w.heap.size w w' := by
  obtain ⟨i, rfl⟩ : ∃ i : Nat, n0 = Int.ofNat i := ⟨n0.toNat, by show n0 = (n0.toNat : Int); omega⟩
  have hi : i < 256 := by have h1 : (i : Int) ≤ 255 := h0.2; omega
  have hr := List.all_eq_true.1 (apply_run n1 n2 n4 n5 n6 n7 n8 n11 n12 n13 n14 n15 n17 n18 n21 n22 n23 n24 n26 n28 n29 n30 n31 n32 s3 s9 s10 s16 s19 s20 s25 s27) i (List.mem_range.2 hi)
  obtain ⟨res, H', h1, h2⟩ := callB_sound tabOK mixed hr (gvs_cmdA _ n1 n2 n4 n5 n6 n7 n8 n11 n12 n13 n14 n15 n17 n18 n21 n22 n23 n24 n26 n28 n29 n30 n31 n32 s3 s9 s10 s16 s19 s20 s25 s27 _)
  have h1 := isA_eq h1
  subst h1
  refine (callsIn_wide (n := 0)).1 ((show CallsIn Fence.wide 0 _ _ _ _ _ from h2 none w).mono fun e w' hh => ?_)
  obtain ⟨⟨u, s', rfl, hu⟩, hb⟩ := hh
  rw [gvv_int hu rfl]
  exact ⟨rfl, hb⟩
theorem rows_calls (w : World) : Calls Tryz.prog 13 #[.pointer none] w fun e w' => e = .returned rowsV ∧ Below w.heap.size w w' := by
  obtain ⟨res, H', h1, h2⟩ := callB_sound tabOK mixed rows_run (vs := [.pointer none]) rfl
  have h1 := isA_eq h1
  subst h1
  refine (callsIn_wide (n := 0)).1 ((show CallsIn Fence.wide 0 _ _ _ _ _ from h2 none w).mono fun e w' hh => ?_)
  obtain ⟨⟨u, s', rfl, hu⟩, hb⟩ := hh
  have : gv s' rowsA = some rowsV := rfl
  rw [this] at hu
  cases hu
  exact ⟨rfl, hb⟩
theorem same_calls (w : World) : Calls Tryz.prog 17 #[rowsV, rowsV] w fun e w' => e = .returned (.bool true) ∧ Below w.heap.size w w' := by
  obtain ⟨res, H', h1, h2⟩ := callB_sound tabOK mixed same_run (vs := [rowsV, rowsV]) rfl
  have h1 := isA_eq h1
  subst h1
  refine (callsIn_wide (n := 0)).1 ((show CallsIn Fence.wide 0 _ _ _ _ _ from h2 none w).mono fun e w' hh => ?_)
  obtain ⟨⟨u, s', rfl, hu⟩, hb⟩ := hh
  rw [gvv_bool hu rfl]
  exact ⟨rfl, hb⟩
theorem works_calls' (w : World) : Calls Tryz.prog 10 #[] w fun e w' => e = .returned (.bool true) ∧ Below w.heap.size w w' := by
  refine (callsIn_wide (n := 0)).1 ((show CallsIn Fence.wide 0 _ _ _ _ _ from works_calls none w).mono fun e w' hh => ?_)
  obtain ⟨rfl, h1, h2, h3, h4, h5⟩ := hh
  exact ⟨rfl, h1, h2, h3, h4, h5⟩
end Go.Xe
