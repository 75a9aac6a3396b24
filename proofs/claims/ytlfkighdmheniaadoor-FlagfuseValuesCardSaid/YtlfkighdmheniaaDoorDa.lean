/- Contracts: strings.Join, strconv.Itoa, il's texts, as far as the examples need them. -/
import Derived.Test.YtlfkighdmheniaaDoorCb
import Derived.Test.YtlfkighdmheniaaDoorBd
import Derived.Test.YtlfkighdmheniaaDoorSh
namespace Go.Proofs.YtlfkighdmheniaaDoor
open Go.RowKit
abbrev aS (s : ByteArray) : AV := .d (.v (.string s))
/-- Strings, as a slice's elements. -/
def strs (xs : List ByteArray) : List (List D) := xs.map fun x => [.v (.string x)]
@[simp] theorem strs_nil : strs [] = [] := rfl
@[simp] theorem strs_cons (x : ByteArray) (xs : List ByteArray) : strs (x :: xs) = [.v (.string x)] :: strs xs := rfl
/-- Strings, one after the other. -/
def cat (xs : List ByteArray) : ByteArray := ⟨(xs.flatMap fun x => x.data.toList).toArray⟩
theorem join_nil' (xs : List (List UInt8)) : Lib.join xs [] = xs.flatten := by
  induction xs with
  | nil => rfl
  | cons x xs ih =>
    cases xs with
    | nil => simp [Lib.join_one]
    | cons y ys =>
      rw [Lib.join_cons]
      simp [Lib.joinTail]
theorem sjoin_af (xs : List ByteArray) (hl : (xs.flatMap fun x => x.data.toList).length ≤ 1000000000) (hn : xs.length ≤ 1000000000) : AF Tryd.prog 160 [.d (.sl 1 (strs xs)), aS ⟨#[]⟩] (aS (cat xs)) := by
  intro H w vs hH hs hm
  simp only [ShpL] at hs
  obtain ⟨u1, l1, rfl, s1, u2, l2, rfl, s2, rfl⟩ := hs
  simp only [Shp] at s2
  subst s2
  have m1 := hm.get (i := 0) rfl rfl
  simp only [Mem, Rd] at m1
  obtain ⟨a, cap, rfl, h1, h2, h3⟩ := m1
  have hlen : (strs xs).length = xs.length := by simp [strs]
  have hfin : Lib.join (xs.map (·.data.toList)) [] = xs.flatMap fun x => x.data.toList := by rw [join_nil', List.flatMap_def]
  rw [hlen] at h1 ⊢
  rcases h3 with h3 | ⟨b, off, rfl, hb, hs⟩
  · have hx : xs = [] := by
      cases xs with
      | nil => rfl
      | cons x xs => simp at h3
    subst hx
    refine (Sh_strings_Join_none a cap ⟨#[]⟩ w).mono ?_
    rintro en w' ⟨rfl, rfl⟩
    exact ⟨_, rfl, ⟨by simp [Shp, cat], by simp [Mem, Rd, cat, Value.oneCell']⟩, Ext.refl _⟩
  · refine (Sh_strings_Join b off cap xs ⟨#[]⟩ w (fun j x hj => ?_) hb.1 (by omega) h1 (by simp only [List.toList_toArray]; rw [hfin]; omega)).mono ?_
    · have := hs.get (i := j) (x := [.v (.string x)]) (by simp [strs, hj])
      obtain ⟨u, g1, g2⟩ := this.2.get (j := 0) rfl
      simp only [Rd] at g2
      rw [g2.1] at g1
      simpa using g1
    · rintro en w' ⟨rfl, hw⟩
      refine ⟨_, rfl, ⟨?_, ?_⟩, hw⟩
      · simp only [Shp, List.toList_toArray]
        rw [hfin]
        rfl
      · simp only [Mem, Rd, List.toList_toArray]
        rw [hfin]
        exact ⟨rfl, rfl⟩
theorem itoa_af (i : Nat) (h : i < 100) : AF Tryd.prog 110 [aI .i64 i] (aS ⟨(Lib.decDigits i).toArray⟩) := by
  intro H w vs hH hs hm
  simp only [ShpL] at hs
  obtain ⟨u1, l1, rfl, s1, rfl⟩ := hs
  simp only [Shp] at s1
  subst s1
  refine (Sh_strconv_Itoa_small i h w).mono ?_
  rintro en w' ⟨rfl, rfl⟩
  exact ⟨_, rfl, ⟨by simp [Shp], by simp [Mem, Rd, Value.oneCell']⟩, Ext.refl _⟩
theorem iljoin_af (xs : List ByteArray) (hl : (xs.flatMap fun x => x.data.toList).length ≤ 1000000000) (hn : xs.length ≤ 1000000000) : AF Tryd.prog 109 [.d (.sl 1 (strs xs))] (aS (cat xs)) := by
  refine af_of Tryd.func109 rfl (by kernel_rfl) (by simp [Tryd.ntmps109]) fun _ => ?_
  simp [Tryd.f109]
  refine aCall_of (sjoin_af xs hl hn) (by simp) (by simp) ?_
  simp
end Go.Proofs.YtlfkighdmheniaaDoor
