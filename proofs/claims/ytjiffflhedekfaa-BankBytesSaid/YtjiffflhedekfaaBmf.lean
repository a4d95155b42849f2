/- The frame of BankMoves: what of its 205 slots is known at a cut. -/
import Derived.WalkKit
import Derived.WalkSpells
import Derived.WalkLawsBesides
import Derived.Lib.Hide
import Derived.Test.YtjiffflhedekfaaProg
namespace Go.Proofs.Ytjiffflhedekfaa
open Go.RowKit
set_option maxRecDepth 100000
/-- The slots that are read across cuts. -/
structure Fr (A : Array Value) (acc lv p3 p7 p8 e p10 f k : Value) : Prop where
  size : A.size = 205
  h1 : A[1]? = some acc
  h2 : A[2]? = some lv
  h3 : A[3]? = some p3
  h6 : A[6]? = some (.bool false)
  h7 : A[7]? = some p7
  h8 : A[8]? = some p8
  h9 : A[9]? = some e
  h10 : A[10]? = some p10
  h11 : A[11]? = some f
  h12 : A[12]? = some k
theorem frame_lit (u : Nat → Value) : ((List.range 205).map u).toArray = List.toArray (u 0 :: u 1 :: u 2 :: u 3 :: u 4 :: u 5 :: u 6 :: u 7 :: u 8 :: u 9 :: u 10 :: u 11 :: u 12 :: u 13 :: u 14 :: u 15 :: u 16 :: u 17 :: u 18 :: u 19 :: u 20 :: u 21 :: u 22 :: u 23 :: u 24 :: u 25 :: u 26 :: u 27 :: u 28 :: u 29 :: u 30 :: u 31 :: u 32 :: u 33 :: u 34 :: u 35 :: u 36 :: u 37 :: u 38 :: u 39 :: u 40 :: u 41 :: u 42 :: u 43 :: u 44 :: u 45 :: u 46 :: u 47 :: u 48 :: u 49 :: u 50 :: u 51 :: u 52 :: u 53 :: u 54 :: u 55 :: u 56 :: u 57 :: u 58 :: u 59 :: u 60 :: u 61 :: u 62 :: u 63 :: u 64 :: u 65 :: u 66 :: u 67 :: u 68 :: u 69 :: u 70 :: u 71 :: u 72 :: u 73 :: u 74 :: u 75 :: u 76 :: u 77 :: u 78 :: u 79 :: u 80 :: u 81 :: u 82 :: u 83 :: u 84 :: u 85 :: u 86 :: u 87 :: u 88 :: u 89 :: u 90 :: u 91 :: u 92 :: u 93 :: u 94 :: u 95 :: u 96 :: u 97 :: u 98 :: u 99 :: u 100 :: u 101 :: u 102 :: u 103 :: u 104 :: u 105 :: u 106 :: u 107 :: u 108 :: u 109 :: u 110 :: u 111 :: u 112 :: u 113 :: u 114 :: u 115 :: u 116 :: u 117 :: u 118 :: u 119 :: u 120 :: u 121 :: u 122 :: u 123 :: u 124 :: u 125 :: u 126 :: u 127 :: u 128 :: u 129 :: u 130 :: u 131 :: u 132 :: u 133 :: u 134 :: u 135 :: u 136 :: u 137 :: u 138 :: u 139 :: u 140 :: u 141 :: u 142 :: u 143 :: u 144 :: u 145 :: u 146 :: u 147 :: u 148 :: u 149 :: u 150 :: u 151 :: u 152 :: u 153 :: u 154 :: u 155 :: u 156 :: u 157 :: u 158 :: u 159 :: u 160 :: u 161 :: u 162 :: u 163 :: u 164 :: u 165 :: u 166 :: u 167 :: u 168 :: u 169 :: u 170 :: u 171 :: u 172 :: u 173 :: u 174 :: u 175 :: u 176 :: u 177 :: u 178 :: u 179 :: u 180 :: u 181 :: u 182 :: u 183 :: u 184 :: u 185 :: u 186 :: u 187 :: u 188 :: u 189 :: u 190 :: u 191 :: u 192 :: u 193 :: u 194 :: u 195 :: u 196 :: u 197 :: u 198 :: u 199 :: u 200 :: u 201 :: u 202 :: u 203 :: u 204 :: []) := by kernel_rfl
theorem frame_any (A : Array Value) (h : A.size = 205) : ∃ u : Nat → Value, A = ((List.range 205).map u).toArray := by
  refine ⟨fun i => A.getD i undef, ?_⟩
  apply Array.ext
  · simp [h]
  · intro i h1 h2
    simp [h1]
theorem Fr.open {A : Array Value} {acc lv p3 p7 p8 e p10 f k : Value} (h : Fr A acc lv p3 p7 p8 e p10 f k) : ∃ u : Nat → Value, A = List.toArray (u 0 :: acc :: lv :: p3 :: u 4 :: u 5 :: (.bool false) :: p7 :: p8 :: e :: p10 :: f :: k :: u 13 :: u 14 :: u 15 :: u 16 :: u 17 :: u 18 :: u 19 :: u 20 :: u 21 :: u 22 :: u 23 :: u 24 :: u 25 :: u 26 :: u 27 :: u 28 :: u 29 :: u 30 :: u 31 :: u 32 :: u 33 :: u 34 :: u 35 :: u 36 :: u 37 :: u 38 :: u 39 :: u 40 :: u 41 :: u 42 :: u 43 :: u 44 :: u 45 :: u 46 :: u 47 :: u 48 :: u 49 :: u 50 :: u 51 :: u 52 :: u 53 :: u 54 :: u 55 :: u 56 :: u 57 :: u 58 :: u 59 :: u 60 :: u 61 :: u 62 :: u 63 :: u 64 :: u 65 :: u 66 :: u 67 :: u 68 :: u 69 :: u 70 :: u 71 :: u 72 :: u 73 :: u 74 :: u 75 :: u 76 :: u 77 :: u 78 :: u 79 :: u 80 :: u 81 :: u 82 :: u 83 :: u 84 :: u 85 :: u 86 :: u 87 :: u 88 :: u 89 :: u 90 :: u 91 :: u 92 :: u 93 :: u 94 :: u 95 :: u 96 :: u 97 :: u 98 :: u 99 :: u 100 :: u 101 :: u 102 :: u 103 :: u 104 :: u 105 :: u 106 :: u 107 :: u 108 :: u 109 :: u 110 :: u 111 :: u 112 :: u 113 :: u 114 :: u 115 :: u 116 :: u 117 :: u 118 :: u 119 :: u 120 :: u 121 :: u 122 :: u 123 :: u 124 :: u 125 :: u 126 :: u 127 :: u 128 :: u 129 :: u 130 :: u 131 :: u 132 :: u 133 :: u 134 :: u 135 :: u 136 :: u 137 :: u 138 :: u 139 :: u 140 :: u 141 :: u 142 :: u 143 :: u 144 :: u 145 :: u 146 :: u 147 :: u 148 :: u 149 :: u 150 :: u 151 :: u 152 :: u 153 :: u 154 :: u 155 :: u 156 :: u 157 :: u 158 :: u 159 :: u 160 :: u 161 :: u 162 :: u 163 :: u 164 :: u 165 :: u 166 :: u 167 :: u 168 :: u 169 :: u 170 :: u 171 :: u 172 :: u 173 :: u 174 :: u 175 :: u 176 :: u 177 :: u 178 :: u 179 :: u 180 :: u 181 :: u 182 :: u 183 :: u 184 :: u 185 :: u 186 :: u 187 :: u 188 :: u 189 :: u 190 :: u 191 :: u 192 :: u 193 :: u 194 :: u 195 :: u 196 :: u 197 :: u 198 :: u 199 :: u 200 :: u 201 :: u 202 :: u 203 :: u 204 :: []) := by
  obtain ⟨u, hu⟩ := frame_any A h.size
  refine ⟨u, ?_⟩
  have g : ∀ i, i < 205 → A[i]? = some (u i) := fun i hi => by rw [hu]; simp [hi]
  have e1 := Option.some.inj ((g 1 (by omega)).symm.trans h.h1)
  have e2 := Option.some.inj ((g 2 (by omega)).symm.trans h.h2)
  have e3 := Option.some.inj ((g 3 (by omega)).symm.trans h.h3)
  have e6 := Option.some.inj ((g 6 (by omega)).symm.trans h.h6)
  have e7 := Option.some.inj ((g 7 (by omega)).symm.trans h.h7)
  have e8 := Option.some.inj ((g 8 (by omega)).symm.trans h.h8)
  have e9 := Option.some.inj ((g 9 (by omega)).symm.trans h.h9)
  have e10 := Option.some.inj ((g 10 (by omega)).symm.trans h.h10)
  have e11 := Option.some.inj ((g 11 (by omega)).symm.trans h.h11)
  have e12 := Option.some.inj ((g 12 (by omega)).symm.trans h.h12)
  subst e1 e2 e3 e7 e8 e9 e10 e11 e12
  rw [← e6, hu]
  exact frame_lit u
end Go.Proofs.Ytjiffflhedekfaa
